/- MADE BY PROGRAM (gen.py): the abstract code of functions of this seat, each checked against the given code by the kernel. -/
import Derived.Test.YtcdfnopkemadjaaGreatDoorChecked
import Derived.Test.YtcdfnopkemadjaaGreatDoorP18
import Derived.Test.YtcdfnopkemadjaaGreatDoorP19
namespace Go.AM
open Go.Proofs
@[simp] abbrev mV (d s:Nat):au:=⟨some d,none, .mv (.t s)⟩
@[simp] abbrev oP (d:Nat) (i:AI):au:=⟨some d,none,i⟩
@[simp] abbrev oN (i:AI):au:=⟨none,none,i⟩
@[simp] abbrev gT (d g:Nat) (i:AI):au:=⟨some d,some (g,true),i⟩
@[simp] abbrev gF (d g:Nat) (i:AI):au:=⟨some d,some (g,false),i⟩
abbrev RsT:=List (Nat × Option (Option Nat))
abbrev SpF (n:Nat) (F:FuncId) (C:AC) (Rs:RsT):Prop:=∀ {args:List aa} {σ:ab} {R:bh → ab → Prop},args.length ≤ n → AW Tryz.prog n none C (o6 Rs R) { v:=bF args 0,ds:=[] } σ → Spec Tryz.prog F args σ R
theorem SpI {n:Nat} {F:FuncId} {fn:Func} {C:AC} {Rs:RsT} (hf:Tryz.prog.funcs[F]? = some fn) (hk:an Tryz.prog fn n C Rs = true):SpF n F C Rs:=fun ha h=>Spec.pG hf hk ha h
@[simp] abbrev cI (n:Int):ay:=.c (.int .i64 n)
abbrev F_3:FuncId:=3
def C_3:AC:=
(.seq (.reg [oP 0 (.mv (.c (.bool false)))] [])
(.seq (.seq (.reg [oP 1 (.mv (cI 0))] [1])
(.block 0
(.loop [1]
(.seq (.seq (.reg [mV 4 1,
oP 5 (.call (.f 4) [] []),
oP 6 (.len (.t 5)),
oP 7 (.bin .leq (.t 4) (.t 6))] [1,7])
(.cond (.t 7)
.skip
(.exit 0)))
(.seq (.block 1
(.seq (.reg [oP 11 (.call (.f 6) [] []),
oP 12 (.call (.f 4) [] []),
mV 13 1,
oP 14 (.subq 1 (.t 12) none (some (.t 13))),
oP 15 (.call (.f 5) [true,true] [(.t 11),(.t 14)]),
mV 10 15,
oP 16 (.extract (.t 10) 0),
oP 17 (.extract (.t 10) 1),
mV 2 16,
mV 3 17] [1,2,3])
(.seq (.reg [mV 18 3,
oP 19 (.bin .neq (.t 18) (cI 0)),
mV 20 19,
gF 21 20 (.mv (.t 2)),
gF 22 20 (.call (.f 8) [] []),
gF 23 20 (.mv (.t 1)),
gF 24 20 (.subq 2 (.t 22) none (some (.t 23))),
gF 25 20 (.call (.f 7) [true,true] [(.t 21),(.t 24)]),
gF 26 20 (.un .not (.t 25)),
oP 27 (.pick (.t 20) (.c (.bool true)) (.t 26))] [1,27])
(.cond (.t 27)
(.seq (.reg [oP 0 (.mv (.c (.bool false)))] [0])
.ret)
.skip))))
(.reg [mV 8 1,
oP 9 (.bin .add (.t 8) (cI 1)),
mV 1 9] [1]))))))
(.seq (.reg [oP 28 (.call (.f 9) [] []),
mV 0 28] [0])
.ret)))
abbrev R_3:RsT:=[(0,none)]
theorem K_3:an Tryz.prog Tryz.f3 29 C_3 R_3 = true:=by kernel_rfl
theorem B_3:af Tryz.prog F_3 = true:=by kernel_rfl
theorem E_3:ag Tryz.prog ⟨3,29,C_3,R_3,0⟩:=⟨fun _=>⟨B_3,_,Tryz.func3,K_3⟩,fun h=>by cases h⟩
abbrev F_4:FuncId:=4
def C_4:AC:=
(.seq (.reg [oP 0 (.mv (.c (.slice 1 [])))] [])
(.seq (.reg [⟨some 1,none, .lit 0 1 30 [(0,(.c (.str ⟨#[51,32,99,117,116,32,98,111,119,32,50,48]⟩))),(1,(.c (.str ⟨#[51,32,114,117,110,32,49,32,48]⟩))),(2,(.c (.str ⟨#[51,32,114,117,110,32,48,32,48]⟩))),(3,(.c (.str ⟨#[51,32,98,108,97,110,107,32,53]⟩))),(4,(.c (.str ⟨#[51,32,98,108,97,110,107,32,51]⟩))),(5,(.c (.str ⟨#[51,32,98,108,97,110,107,32,53]⟩))),(6,(.c (.str ⟨#[52,32,98,108,111,119,32,100]⟩))),(7,(.c (.str ⟨#[52,32,98,108,111,119,32,101]⟩))),(8,(.c (.str ⟨#[52,32,111,102,102,32,100]⟩))),(9,(.c (.str ⟨#[52,32,111,102,102,32,101]⟩))),(10,(.c (.str ⟨#[52,32,98,108,97,110,107,32,49]⟩))),(11,(.c (.str ⟨#[53,32,114,101,97,100,32,50,48,32,110,101,119,32,54]⟩))),(12,(.c (.str ⟨#[53,32,116,111,114,99,104,32,50,48]⟩))),(13,(.c (.str ⟨#[53,32,116,111,114,99,104,32,50,49]⟩))),(14,(.c (.str ⟨#[53,32,99,117,116,32,98,111,119,32,50,49]⟩))),(15,(.c (.str ⟨#[53,32,99,117,116,32,109,97,115,116,32,50,48]⟩))),(16,(.c (.str ⟨#[53,32,99,117,116,32,98,111,119,32,50,48]⟩))),(17,(.c (.str ⟨#[53,32,99,117,116,32,109,105,100,32,50,48]⟩))),(18,(.c (.str ⟨#[53,32,109,97,121]⟩))),(19,(.c (.str ⟨#[53,32,99,117,116,32,115,116,101,114,110,32,50,48]⟩))),(20,(.c (.str ⟨#[52,32,109,97,121]⟩))),(21,(.c (.str ⟨#[53,32,99,117,116,32,109,105,100]⟩))),(22,(.c (.str ⟨#[53,32,104,101,97,112,115]⟩))),(23,(.c (.str ⟨#[54,32,112,97,112,101,114,32,111,105,108,32,121,97,114,100,32,112,105,116,32,54,48,48,32,45]⟩))),(24,(.c (.str ⟨#[54,32,112,97,112,101,114,32,111,105,108,32,121,97,114,100,32,112,105,116,32,53,48,48,32,48]⟩))),(25,(.c (.str ⟨#[54,32,112,97,112,101,114,32,111,105,108,32,121,97,114,100,32,45,32,51,48,48,32,45]⟩))),(26,(.c (.str ⟨#[54,32,102,111,117,110,100,32,111,105,108,32,121,97,114,100,32,49,48,48,32,49,48,48]⟩))),(27,(.c (.str ⟨#[54,32,102,111,117,110,100,32,111,105,108,32,112,105,116,32,54,48,48,32,54,48,48]⟩))),(28,(.c (.str ⟨#[54,32,102,97,108,115,101]⟩))),(29,(.c (.str ⟨#[54,32,112,97,121,115]⟩)))]⟩,
oP 0 (.mvd (.t 1))] [0])
.ret))
abbrev R_4:RsT:=[(0,none)]
theorem K_4:an Tryz.prog Tryz.f4 2 C_4 R_4 = true:=by kernel_rfl
theorem B_4:af Tryz.prog F_4 = true:=by kernel_rfl
theorem E_4:ag Tryz.prog ⟨4,2,C_4,R_4,0⟩:=⟨fun _=>⟨B_4,_,Tryz.func4,K_4⟩,fun h=>by cases h⟩
abbrev F_5:FuncId:=5
def C_5:AC:=
(.seq (.reg [oP 2 (.pbox 36 (.t 0)),
oP 4 (.mv (.c (.slice 2 []))),
oP 5 (.mv (cI 0))] [1,2])
(.seq (.reg [oP 12 (.load (some 36) (.t 2)),
mV 13 1,
oP 14 (.call (.f 10) [true,true] [(.t 12),(.t 13)]),
mV 11 14,
oP 15 (.extract (.t 11) 0),
oP 16 (.extract (.t 11) 1),
mV 6 15,
mV 7 16] [1,6,7])
(.seq (.seq (.reg [mV 17 7,
oP 18 (.bin .neq (.t 17) (cI 0))] [1,6,7,18])
(.cond (.t 18)
(.seq (.reg [mV 19 7,
oP 4 (.mv (.c (.slice 2 []))),
mV 5 19] [4,5])
.ret)
.skip))
(.seq (.reg [mV 20 1,
oP 21 (.len (.t 20)),
oP 22 (.mksl 2 2 32 (.agg [.int .i64 0, .slice 1 []]) (.t 21) (.t 21)),
mV 8 22] [1,6,8])
(.seq (.seq (.reg [mV 23 1,
oP 24 (.len (.t 23)),
oP 25 (.mv (cI 0))] [6,8,23,24,25])
(.block 0
(.loop [6,8,23,24,25]
(.seq (.reg [oP 26 (.bin .lss (.t 25) (.t 24))] [6,8,23,24,25,26])
(.seq (.cond (.t 26)
.skip
(.exit 0))
(.seq (.block 1
(.seq (.reg [mV 27 25,
oP 28 (.ixS 1 (.t 23) (.t 25)),
oP 29 (.load none (.t 28)),
mV 9 27,
mV 10 29] [6,8,9,10,23,24,25])
(.reg [mV 31 8,
mV 32 9,
mV 33 6,
mV 34 10,
oP 35 (.call (.f 11) [false,false] [(.t 33),(.t 34)]),
mV 30 35,
oP 36 (.extract (.t 30) 0),
oP 37 (.extract (.t 30) 1),
oP 38 (.ixS 2 (.t 31) (.t 32)),
oN (.store 2 (.t 38) (.t 36))] [6,8,23,24,25])))
(.reg [oP 39 (.bin .add (.t 25) (cI 1)),
mV 25 39] [6,8,23,24,25])))))))
(.seq (.reg [oP 40 (.freeze 2 (.t 8)),
oP 4 (.mvd (.t 40)),
oP 5 (.mv (cI 0))] [4,5])
.ret))))))
abbrev R_5:RsT:=[(4,none),(5,none)]
theorem K_5:an Tryz.prog Tryz.f5 41 C_5 R_5 = true:=by kernel_rfl
theorem B_5:af Tryz.prog F_5 = true:=by kernel_rfl
theorem E_5:ag Tryz.prog ⟨5,41,C_5,R_5,0⟩:=⟨fun _=>⟨B_5,_,Tryz.func5,K_5⟩,fun h=>by cases h⟩
abbrev F_6:FuncId:=6
def C_6:AC:=
(.seq (.reg [oP 0 (.alloc [.slice 7 [], .slice 10 [], .int .i64 0, .int .i64 0, .int .i64 0, .int .i64 0, .int .i64 0, .slice 5 [], .int .i64 0, .int .i64 0, .int .i64 0, .int .i64 0, .int .i64 0, .int .i64 0, .int .i64 0, .int .i64 0, .int .i64 0, .int .i64 0, .slice 2 [], .slice 2 [], .slice 2 [], .slice 3 [], .slice 7 [], .int .i64 0, .int .i64 0, .int .i64 0, .int .i64 0, .slice 1 [], .slice 1 [], .slice 1 [], .slice 4 [], .slice 5 [], .slice 4 [], .int .i64 0, .int .i64 0, .slice 4 []])] [0])
(.seq (.reg [oP 1 (.mv (.f 12))] [0,1])
(.seq (.reg [oP 3 (.call (.f 14) [false] [(.c (.bool false))]),
oP 2 (.alloc [.slice 1 [], .slice 1 [], .slice 4 [], .slice 5 [], .slice 4 []]),
oN (.store 5 (.t 2) (.t 3))] [0,1,2])
(.seq (.reg [oP 4 (.fieldAddr none 3 (.t 2)),
oN (.store 1 (.t 4) (.c (.slice 5 []))),
oP 5 (.fieldAddr none 4 (.t 2)),
oN (.store 1 (.t 5) (.c (.slice 4 [])))] [0,1,2])
(.seq (.dreg [mV 6 1,
⟨some 7,none, .call (.t 6) [false,false,false,false,false,false] [(.c (.str ⟨#[98,111,119]⟩)),(cI 2),(cI 0),(cI 10),(cI 1000),(cI 1200)]⟩,
mV 8 1,
⟨some 9,none, .call (.t 8) [false,false,false,false,false,false] [(.c (.str ⟨#[109,105,100]⟩)),(cI 1),(cI 5),(cI 30),(cI 500),(cI 600)]⟩,
mV 10 1,
⟨some 11,none, .call (.t 10) [false,false,false,false,false,false] [(.c (.str ⟨#[115,116,101,114,110]⟩)),(cI 1),(cI 25),(cI 40),(cI 2000),(cI 2000)]⟩,
oP 12 (.lit 0 7 3 [(0,(.t 7)),(1,(.t 9)),(2,(.t 11))]),
oP 13 (.build [.slice 7 []] [(0,1,(.t 12))]),
oP 14 (.build [.slice 7 [], .slice 10 []] [(0,1,(.t 13))]),
oP 15 (.call (.f 15) [] []),
oP 16 (.call (.f 16) [] []),
oP 17 (.call (.f 17) [] []),
oP 18 (.call (.f 18) [false] [(.c (.bool false))]),
oP 19 (.call (.f 19) [] []),
oP 20 (.call (.f 13) [false,false] [(cI 0),(cI 60)]),
oP 21 (.lit 0 1 2 [(0,(cI 3)),(1,(cI 4))]),
oP 22 (.lit 0 1 3 [(0,(.c (.slice 1 []))),(1,(.t 21)),(2,(.c (.slice 1 [])))]),
oP 23 (.load (some 5) (.t 2)),
oP 24 (.call (.f 20) [] []),
oP 25 (.build [.slice 7 [], .slice 10 [], .int .i64 0, .int .i64 0, .int .i64 0, .int .i64 0, .int .i64 0, .slice 5 [], .int .i64 0, .int .i64 0, .int .i64 0, .int .i64 0, .int .i64 0, .int .i64 0, .int .i64 0, .int .i64 0, .int .i64 0, .int .i64 0, .slice 2 [], .slice 2 [], .slice 2 [], .slice 3 [], .slice 7 [], .int .i64 0, .int .i64 0, .int .i64 0, .int .i64 0, .slice 1 [], .slice 1 [], .slice 1 [], .slice 4 [], .slice 5 [], .slice 4 [], .int .i64 0, .int .i64 0, .slice 4 []] [(0,2,(.t 14)),(2,6,(.t 15)),(8,3,(.t 16)),(11,9,(.t 17)),(20,2,(.t 18)),(22,3,(.t 19)),(25,2,(.t 20)),(27,1,(.t 22)),(28,5,(.t 23)),(33,3,(.t 24))]),
oN (.store 36 (.t 0) (.t 25))] [0] [[],[0],[],[0,1,2],[],[0,1,2,3,4],[0,1,2,3,4,5],[0,1,2,3,4,5,6],[0,1,2,3,4,5,6,7],[0,1,2,3,4,5],[0,1,2,3,4,5,9],[0,1,2,3,4,5,9,10],[0,1,2,3,4,5,9,10,11],[0,1,2,3,4,5,9,10,11,12],[0,1,2,3,4,5,9,10,11,12,13],[],[15],[],[0,1,2,3,4,5,9,10,11,12,13,14],[0,1,2,3,4,5,6,7,8,9,10,11,12,13,14,15,16,17,18],[0,1,2,3,4,5,6,7,8,9,10,11,12,13,14,15,16,17,18,19]])
.ret)))))
abbrev R_6:RsT:=[(0,some (some 36))]
theorem K_6:an Tryz.prog Tryz.f6 26 C_6 R_6 = true:=by kernel_rfl
theorem B_6:af Tryz.prog F_6 = true:=by kernel_rfl
theorem E_6:ag Tryz.prog ⟨6,26,C_6,R_6,0⟩:=⟨fun _=>⟨B_6,_,Tryz.func6,K_6⟩,fun h=>by cases h⟩
abbrev F_7:FuncId:=7
def C_7:AC:=
(.seq (.reg [oP 4 (.mv (.c (.bool false)))] [0,1])
(.seq (.reg [mV 7 0,
oP 8 (.len (.t 7)),
mV 9 1,
oP 10 (.len (.t 9)),
oP 11 (.bin .eql (.t 8) (.t 10)),
mV 5 11] [0,1,5])
(.seq (.seq (.reg [oP 6 (.mv (cI 0))] [0,1,5,6])
(.block 0
(.loop [0,1,5,6]
(.seq (.seq (.reg [mV 12 6,
mV 13 0,
oP 14 (.len (.t 13)),
oP 15 (.bin .lss (.t 12) (.t 14)),
mV 16 15,
gT 17 16 (.mv (.t 5)),
oP 18 (.pick (.t 16) (.t 17) (.c (.bool false)))] [0,1,5,6,18])
(.cond (.t 18)
.skip
(.exit 0)))
(.seq (.block 1
(.dreg [mV 21 0,
mV 22 6,
oP 23 (.ixS 2 (.t 21) (.t 22)),
oP 24 (.fieldAddr none 0 (.t 23)),
oP 25 (.load none (.t 24)),
mV 26 1,
mV 27 6,
oP 28 (.ixS 2 (.t 26) (.t 27)),
oP 29 (.fieldAddr none 0 (.t 28)),
oP 30 (.load none (.t 29)),
oP 31 (.bin .eql (.t 25) (.t 30)),
mV 32 31,
gT 33 32 (.mv (.t 0)),
gT 34 32 (.mv (.t 6)),
gT 35 32 (.ixS 2 (.t 33) (.t 34)),
gT 36 32 (.fieldAddr none 1 (.t 35)),
gT 37 32 (.load none (.t 36)),
gT 38 32 (.mv (.t 1)),
gT 39 32 (.mv (.t 6)),
gT 40 32 (.ixS 2 (.t 38) (.t 39)),
gT 41 32 (.fieldAddr none 1 (.t 40)),
gT 42 32 (.load none (.t 41)),
gT 43 32 (.call (.f 21) [true,true] [(.t 37),(.t 42)]),
oP 44 (.pick (.t 32) (.t 43) (.c (.bool false))),
mV 5 44] [0,1,5,6] [[],[],[0,1],[0,1,2],[0,1,2,3],[],[],[5,6],[5,6,7],[5,6,7,8],[0,1,2,3,4,5,6,7,8,9],[0,1,2,3,4,5,6,7,8,9,10],[0,1,2,3,4,5,6,7,8,9,10,11],[0,1,2,3,4,5,6,7,8,9,10,11],[0,1,2,3,4,5,6,7,8,9,10,11,12,13],[0,1,2,3,4,5,6,7,8,9,10,11,12,13,14],[0,1,2,3,4,5,6,7,8,9,10,11,12,13,14,15],[0,1,2,3,4,5,6,7,8,9,10,11],[0,1,2,3,4,5,6,7,8,9,10,11],[0,1,2,3,4,5,6,7,8,9,10,11,17,18],[0,1,2,3,4,5,6,7,8,9,10,11,17,18,19],[0,1,2,3,4,5,6,7,8,9,10,11,17,18,19,20],[0,1,2,3,4,5,6,7,8,9,10,11,12,13,14,15,16,17,18,19,20,21],[0,1,2,3,4,5,6,7,8,9,10,11,12,13,14,15,16,17,18,19,20,21,22],[0,1,2,3,4,5,6,7,8,9,10,11,12,13,14,15,16,17,18,19,20,21,22,23]]))
(.reg [mV 19 6,
oP 20 (.bin .add (.t 19) (cI 1)),
mV 6 20] [0,1,5,6]))))))
(.seq (.reg [mV 45 5,
mV 4 45] [4])
.ret))))
abbrev R_7:RsT:=[(4,none)]
theorem K_7:an Tryz.prog Tryz.f7 46 C_7 R_7 = true:=by kernel_rfl
theorem B_7:af Tryz.prog F_7 = true:=by kernel_rfl
theorem E_7:ag Tryz.prog ⟨7,46,C_7,R_7,0⟩:=⟨fun _=>⟨B_7,_,Tryz.func7,K_7⟩,fun h=>by cases h⟩
abbrev F_8:FuncId:=8
def C_8:AC:=
(.seq (.reg [oP 0 (.mv (.c (.slice 2 [])))] [])
(.seq (.reg [oP 1 (.call (.f 22) [false] [(cI 8)]),
oP 2 (.call (.f 22) [false] [(cI 9)]),
oP 3 (.lit 0 1 2 [(0,(cI 7200)),(1,(cI 12000))]),
oP 4 (.call (.f 23) [true] [(.t 3)]),
oP 5 (.lit 0 1 1 [(0,(cI 5))]),
oP 6 (.call (.f 23) [true] [(.t 5)]),
oP 7 (.lit 0 1 2 [(0,(cI 3)),(1,(cI 5))]),
oP 8 (.call (.f 23) [true] [(.t 7)]),
oP 9 (.call (.f 22) [false] [(cI 5)]),
oP 10 (.lit 0 1 1 [(0,(cI 3))]),
oP 11 (.call (.f 23) [true] [(.t 10)]),
oP 12 (.lit 0 1 2 [(0,(cI 3)),(1,(cI 4))]),
oP 13 (.call (.f 23) [true] [(.t 12)]),
oP 14 (.lit 0 1 2 [(0,(cI 3)),(1,(cI 4))]),
oP 15 (.call (.f 23) [true] [(.t 14)]),
oP 16 (.lit 0 1 2 [(0,(cI 3)),(1,(cI 4))]),
oP 17 (.call (.f 23) [true] [(.t 16)]),
oP 18 (.call (.f 22) [false] [(cI 2)]),
oP 19 (.lit 0 1 2 [(0,(cI 4)),(1,(cI 8))]),
oP 20 (.call (.f 23) [true] [(.t 19)]),
oP 21 (.lit 0 1 1 [(0,(cI 20))]),
oP 22 (.call (.f 23) [true] [(.t 21)]),
oP 23 (.lit 0 1 1 [(0,(cI (-1)))]),
oP 24 (.call (.f 23) [true] [(.t 23)]),
oP 25 (.call (.f 22) [false] [(cI 9)]),
oP 26 (.call (.f 22) [false] [(cI 4)]),
oP 27 (.lit 0 1 2 [(0,(cI 1000)),(1,(cI 1200))]),
oP 28 (.call (.f 23) [true] [(.t 27)]),
oP 29 (.call (.f 22) [false] [(cI 9)]),
oP 30 (.lit 0 1 1 [(0,(cI 2))]),
oP 31 (.call (.f 23) [true] [(.t 30)]),
oP 32 (.lit 0 1 2 [(0,(cI 2000)),(1,(cI 2000))]),
oP 33 (.call (.f 23) [true] [(.t 32)]),
oP 34 (.call (.f 22) [false] [(cI 7)]),
oP 35 (.call (.f 22) [false] [(cI 6)]),
oP 36 (.lit 0 1 12 [(0,(cI 2000)),(1,(cI 2000)),(2,(cI 1000)),(3,(cI 1200)),(4,(cI 0)),(5,(cI 0)),(6,(cI 0)),(7,(cI 0)),(8,(cI 0)),(9,(cI 0)),(10,(cI 500)),(11,(cI 600))]),
oP 37 (.call (.f 23) [true] [(.t 36)]),
oP 38 (.lit 0 1 1 [(0,(cI 0))]),
oP 39 (.call (.f 23) [true] [(.t 38)]),
oP 40 (.lit 0 1 1 [(0,(cI 1))]),
oP 41 (.call (.f 23) [true] [(.t 40)]),
oP 42 (.lit 0 1 1 [(0,(cI 2))]),
oP 43 (.call (.f 23) [true] [(.t 42)]),
oP 44 (.call (.f 23) [true] [(.c (.slice 1 []))]),
oP 45 (.call (.f 23) [true] [(.c (.slice 1 []))]),
oP 46 (.lit 0 1 1 [(0,(cI 1))]),
oP 47 (.call (.f 23) [true] [(.t 46)]),
oP 48 (.lit 0 1 8 [(0,(cI 300)),(1,(cI 400)),(2,(cI 400)),(3,(cI 654)),(4,(cI 163)),(5,(cI 300)),(6,(cI 0)),(7,(cI 0))]),
oP 49 (.call (.f 23) [true] [(.t 48)]),
oP 50 (.lit 0 2 30 [(0,(.t 1)),(1,(.t 2)),(2,(.t 4)),(3,(.t 6)),(4,(.t 8)),(5,(.t 9)),(6,(.t 11)),(7,(.t 13)),(8,(.t 15)),(9,(.t 17)),(10,(.t 18)),(11,(.t 20)),(12,(.t 22)),(13,(.t 24)),(14,(.t 25)),(15,(.t 26)),(16,(.t 28)),(17,(.t 29)),(18,(.t 31)),(19,(.t 33)),(20,(.t 34)),(21,(.t 35)),(22,(.t 37)),(23,(.t 39)),(24,(.t 41)),(25,(.t 43)),(26,(.t 44)),(27,(.t 45)),(28,(.t 47)),(29,(.t 49))]),
oP 0 (.mvd (.t 50))] [0])
.ret))
abbrev R_8:RsT:=[(0,none)]
theorem K_8:an Tryz.prog Tryz.f8 51 C_8 R_8 = true:=by kernel_rfl
theorem B_8:af Tryz.prog F_8 = true:=by kernel_rfl
theorem E_8:ag Tryz.prog ⟨8,51,C_8,R_8,0⟩:=⟨fun _=>⟨B_8,_,Tryz.func8,K_8⟩,fun h=>by cases h⟩
abbrev F_9:FuncId:=9
def C_9:AC:=
(.seq (.reg [oP 0 (.mv (.c (.bool false)))] [])
(.seq (.reg [oP 15 (.call (.f 6) [] []),
oP 16 (.call (.f 4) [] []),
oP 17 (.call (.f 5) [true,true] [(.t 15),(.t 16)]),
mV 14 17,
oP 18 (.extract (.t 14) 0),
oP 19 (.extract (.t 14) 1),
mV 1 18,
mV 2 19] [1,2])
(.seq (.reg [oP 21 (.call (.f 6) [] []),
oP 22 (.call (.f 4) [] []),
oP 23 (.subq 1 (.t 22) none (some (cI 20))),
oP 24 (.call (.f 24) [true,true] [(.t 21),(.t 23)]),
mV 20 24,
oP 25 (.extract (.t 20) 0),
oP 26 (.extract (.t 20) 1),
oP 3 (.alloc [.int .i64 0, .bool false, .int .i64 0, .int .i64 0, .slice 1 [], .slice 2 [], .slice 3 [], .slice 1 [], .slice 5 [], .slice 4 []]),
oN (.store 10 (.t 3) (.t 25)),
mV 4 26] [1,2,3,4])
(.frz 3 true (.seq (.reg [oP 28 (.call (.f 6) [] []),
oP 29 (.call (.f 4) [] []),
oP 30 (.subq 1 (.t 29) none (some (cI 7))),
oP 31 (.call (.f 25) [true,true] [(.t 28),(.t 30)]),
mV 27 31,
oP 32 (.extract (.t 27) 0),
oP 33 (.extract (.t 27) 1),
mV 5 32,
mV 6 33] [1,2,3,4,5,6])
(.seq (.reg [oP 35 (.call (.f 6) [] []),
mV 36 5,
oP 37 (.call (.f 26) [true,false] [(.t 35),(.t 36)]),
mV 34 37,
oP 38 (.extract (.t 34) 0),
oP 39 (.extract (.t 34) 1),
oP 7 (.alloc [.int .i64 0, .bool false, .int .i64 0, .int .i64 0, .slice 1 [], .slice 2 [], .slice 3 [], .slice 1 [], .slice 5 [], .slice 4 []]),
oN (.store 10 (.t 7) (.t 38)),
mV 8 39] [1,2,3,4,5,6,7,8])
(.frz 7 true (.seq (.reg [oP 41 (.call (.f 6) [] []),
oP 42 (.call (.f 4) [] []),
oP 43 (.subq 1 (.t 42) none (some (cI 17))),
oP 44 (.call (.f 27) [true,true] [(.t 41),(.t 43)]),
mV 40 44,
oP 45 (.extract (.t 40) 0),
oP 46 (.extract (.t 40) 1),
oP 47 (.extract (.t 40) 2),
oP 10 (.alloc [.int .i64 0, .int .i64 0]),
mV 9 45,
oN (.store 2 (.t 10) (.t 46)),
mV 11 47] [1,2,3,4,5,6,7,8,9,10,11])
(.frz 10 true (.seq (.reg [oP 49 (.call (.f 6) [] []),
⟨some 50,none, .call (.f 26) [true,false] [(.t 49),(.c (.str ⟨#[51,32,109,97,121,10]⟩))]⟩,
mV 48 50,
oP 51 (.extract (.t 48) 0),
oP 52 (.extract (.t 48) 1),
oP 12 (.alloc [.int .i64 0, .bool false, .int .i64 0, .int .i64 0, .slice 1 [], .slice 2 [], .slice 3 [], .slice 1 [], .slice 5 [], .slice 4 []]),
oN (.store 10 (.t 12) (.t 51)),
mV 13 52] [1,2,3,4,5,6,7,8,9,10,11,13])
(.seq (.dreg [mV 53 2,
oP 54 (.bin .eql (.t 53) (cI 0)),
mV 55 54,
gT 56 55 (.mv (.t 4)),
gT 57 55 (.bin .eql (.t 56) (cI 0)),
oP 58 (.pick (.t 55) (.t 57) (.c (.bool false))),
mV 59 58,
gT 60 59 (.mv (.t 6)),
gT 61 59 (.bin .eql (.t 60) (cI 0)),
oP 62 (.pick (.t 59) (.t 61) (.c (.bool false))),
mV 63 62,
gT 64 63 (.mv (.t 8)),
gT 65 63 (.bin .eql (.t 64) (cI 0)),
oP 66 (.pick (.t 63) (.t 65) (.c (.bool false))),
mV 67 66,
gT 68 67 (.mv (.t 11)),
gT 69 67 (.bin .eql (.t 68) (cI 0)),
oP 70 (.pick (.t 67) (.t 69) (.c (.bool false))),
mV 71 70,
gT 72 71 (.mv (.t 13)),
gT 73 71 (.bin .eql (.t 72) (cI 6)),
oP 74 (.pick (.t 71) (.t 73) (.c (.bool false))),
mV 75 74,
gT 76 75 (.mv (.t 1)),
gT 77 75 (.call (.f 8) [] []),
gT 78 75 (.call (.f 7) [true,true] [(.t 76),(.t 77)]),
oP 79 (.pick (.t 75) (.t 78) (.c (.bool false))),
mV 80 79,
gT 81 80 (.fieldAddr none 7 (.t 3)),
gT 82 80 (.load none (.t 81)),
gT 83 80 (.lit 0 1 2 [(0,(cI 0)),(1,(cI 2))]),
gT 84 80 (.call (.f 21) [true,true] [(.t 82),(.t 83)]),
oP 85 (.pick (.t 80) (.t 84) (.c (.bool false))),
mV 86 85,
gT 87 86 (.fieldAddr none 1 (.t 3)),
gT 88 86 (.load none (.t 87)),
oP 89 (.pick (.t 86) (.t 88) (.c (.bool false))),
mV 90 89,
gT 91 90 (.fieldAddr none 0 (.t 3)),
gT 92 90 (.load none (.t 91)),
gT 93 90 (.bin .eql (.t 92) (cI 5)),
oP 94 (.pick (.t 90) (.t 93) (.c (.bool false))),
mV 95 94,
gT 96 95 (.mv (.t 5)),
⟨some 97,(some (95,true)), .bin .eql (.t 96) (.c (.str ⟨#[51,32,114,117,110,32,48,32,48,10,51,32,98,108,97,110,107,32,53,10,51,32,98,108,97,110,107,32,51,10,52,32,98,108,111,119,32,100,10]⟩))⟩,
oP 98 (.pick (.t 95) (.t 97) (.c (.bool false))),
mV 99 98,
gT 100 99 (.fieldAddr none 0 (.t 7)),
gT 101 99 (.load none (.t 100)),
gT 102 99 (.bin .eql (.t 101) (cI 4)),
oP 103 (.pick (.t 99) (.t 102) (.c (.bool false))),
mV 104 103,
gT 105 104 (.fieldAddr none 4 (.t 7)),
gT 106 104 (.load none (.t 105)),
gT 107 104 (.lit 0 1 2 [(0,(cI 3)),(1,(cI 5))]),
gT 108 104 (.call (.f 21) [true,true] [(.t 106),(.t 107)]),
oP 109 (.pick (.t 104) (.t 108) (.c (.bool false))),
mV 110 109,
gT 111 110 (.mv (.t 9)),
gT 112 110 (.build [.int .i64 0, .int .i64 0] []),
gT 113 110 (.call (.f 13) [false,false] [(cI 1000),(cI 1200)]),
gT 114 110 (.build [.int .i64 0, .int .i64 0] []),
gT 115 110 (.build [.int .i64 0, .int .i64 0] []),
gT 116 110 (.build [.int .i64 0, .int .i64 0] []),
gT 117 110 (.lit 0 2 5 [(0,(.t 112)),(1,(.t 113)),(2,(.t 114)),(3,(.t 115)),(4,(.t 116))]),
gT 118 110 (.call (.f 28) [true,true] [(.t 111),(.t 117)]),
oP 119 (.pick (.t 110) (.t 118) (.c (.bool false))),
mV 120 119,
gT 121 120 (.load (some 2) (.t 10)),
gT 122 120 (.call (.f 13) [false,false] [(cI 2500),(cI 2600)]),
gT 123 120 (.eqa false [.i, .i] (.t 121) (.t 122)),
oP 124 (.pick (.t 120) (.t 123) (.c (.bool false))),
mV 0 124] [0] [[],[0],[0,1],[0,1,2],[0,1,2,3],[0,1,2,3,4],[0,1,2,3,4,5],[0,1,2,3,4,5,6],[0,1,2,3,4,5,6,7],[0,1,2,3,4,5,6,7,8],[0,1,2,3,4,5,6,7,8,9],[0,1,2,3,4,5,6,7,8,9,10],[0,1,2,3,4,5,6,7,8,9,10,11],[0,1,2,3,4,5,6,7,8,9,10,11,12],[0,1,2,3,4,5,6,7,8,9,10,11,12,13],[0,1,2,3,4,5,6,7,8,9,10,11,12,13,14],[0,1,2,3,4,5,6,7,8,9,10,11,12,13,14,15],[0,1,2,3,4,5,6,7,8,9,10,11,12,13,14,15,16],[0,1,2,3,4,5,6,7,8,9,10,11,12,13,14,15,16,17],[0,1,2,3,4,5,6,7,8,9,10,11,12,13,14,15,16,17,18],[0,1,2,3,4,5,6,7,8,9,10,11,12,13,14,15,16,17,18,19],[0,1,2,3,4,5,6,7,8,9,10,11,12,13,14,15,16,17,18,19,20],[0,1,2,3,4,5,6,7,8,9,10,11,12,13,14,15,16,17,18,19,20,21],[0,1,2,3,4,5,6,7,8,9,10,11,12,13,14,15,16,17,18,19,20,21,22],[0,1,2,3,4,5,6,7,8,9,10,11,12,13,14,15,16,17,18,19,20,21,22],[0,1,2,3,4,5,6,7,8,9,10,11,12,13,14,15,16,17,18,19,20,21,22,23,24],[0,1,2,3,4,5,6,7,8,9,10,11,12,13,14,15,16,17,18,19,20,21,22,23,24,25],[0,1,2,3,4,5,6,7,8,9,10,11,12,13,14,15,16,17,18,19,20,21,22,23,24,25,26],[0,1,2,3,4,5,6,7,8,9,10,11,12,13,14,15,16,17,18,19,20,21,22,23,24,25,26,27],[0,1,2,3,4,5,6,7,8,9,10,11,12,13,14,15,16,17,18,19,20,21,22,23,24,25,26,27,28],[0,1,2,3,4,5,6,7,8,9,10,11,12,13,14,15,16,17,18,19,20,21,22,23,24,25,26,27],[0,1,2,3,4,5,6,7,8,9,10,11,12,13,14,15,16,17,18,19,20,21,22,23,24,25,26,27,28,29,30],[0,1,2,3,4,5,6,7,8,9,10,11,12,13,14,15,16,17,18,19,20,21,22,23,24,25,26,27,28,29,30,31],[0,1,2,3,4,5,6,7,8,9,10,11,12,13,14,15,16,17,18,19,20,21,22,23,24,25,26,27,28,29,30,31,32],[0,1,2,3,4,5,6,7,8,9,10,11,12,13,14,15,16,17,18,19,20,21,22,23,24,25,26,27,28,29,30,31,32,33],[0,1,2,3,4,5,6,7,8,9,10,11,12,13,14,15,16,17,18,19,20,21,22,23,24,25,26,27,28,29,30,31,32,33,34],[0,1,2,3,4,5,6,7,8,9,10,11,12,13,14,15,16,17,18,19,20,21,22,23,24,25,26,27,28,29,30,31,32,33,34,35],[0,1,2,3,4,5,6,7,8,9,10,11,12,13,14,15,16,17,18,19,20,21,22,23,24,25,26,27,28,29,30,31,32,33,34,35,36],[0,1,2,3,4,5,6,7,8,9,10,11,12,13,14,15,16,17,18,19,20,21,22,23,24,25,26,27,28,29,30,31,32,33,34,35,36,37],[0,1,2,3,4,5,6,7,8,9,10,11,12,13,14,15,16,17,18,19,20,21,22,23,24,25,26,27,28,29,30,31,32,33,34,35,36,37,38],[0,1,2,3,4,5,6,7,8,9,10,11,12,13,14,15,16,17,18,19,20,21,22,23,24,25,26,27,28,29,30,31,32,33,34,35,36,37,38,39],[0,1,2,3,4,5,6,7,8,9,10,11,12,13,14,15,16,17,18,19,20,21,22,23,24,25,26,27,28,29,30,31,32,33,34,35,36,37,38,39,40],[0,1,2,3,4,5,6,7,8,9,10,11,12,13,14,15,16,17,18,19,20,21,22,23,24,25,26,27,28,29,30,31,32,33,34,35,36,37,38,39,40,41],[0,1,2,3,4,5,6,7,8,9,10,11,12,13,14,15,16,17,18,19,20,21,22,23,24,25,26,27,28,29,30,31,32,33,34,35,36,37,38,39,40,41,42],[0,1,2,3,4,5,6,7,8,9,10,11,12,13,14,15,16,17,18,19,20,21,22,23,24,25,26,27,28,29,30,31,32,33,34,35,36,37,38,39,40,41,42,43],[0,1,2,3,4,5,6,7,8,9,10,11,12,13,14,15,16,17,18,19,20,21,22,23,24,25,26,27,28,29,30,31,32,33,34,35,36,37,38,39,40,41,42,43,44],[0,1,2,3,4,5,6,7,8,9,10,11,12,13,14,15,16,17,18,19,20,21,22,23,24,25,26,27,28,29,30,31,32,33,34,35,36,37,38,39,40,41,42,43,44,45],[0,1,2,3,4,5,6,7,8,9,10,11,12,13,14,15,16,17,18,19,20,21,22,23,24,25,26,27,28,29,30,31,32,33,34,35,36,37,38,39,40,41,42,43,44,45,46],[0,1,2,3,4,5,6,7,8,9,10,11,12,13,14,15,16,17,18,19,20,21,22,23,24,25,26,27,28,29,30,31,32,33,34,35,36,37,38,39,40,41,42,43,44,45,46,47],[0,1,2,3,4,5,6,7,8,9,10,11,12,13,14,15,16,17,18,19,20,21,22,23,24,25,26,27,28,29,30,31,32,33,34,35,36,37,38,39,40,41,42,43,44,45,46,47,48],[0,1,2,3,4,5,6,7,8,9,10,11,12,13,14,15,16,17,18,19,20,21,22,23,24,25,26,27,28,29,30,31,32,33,34,35,36,37,38,39,40,41,42,43,44,45,46,47,48,49],[0,1,2,3,4,5,6,7,8,9,10,11,12,13,14,15,16,17,18,19,20,21,22,23,24,25,26,27,28,29,30,31,32,33,34,35,36,37,38,39,40,41,42,43,44,45,46,47,48,49,50],[0,1,2,3,4,5,6,7,8,9,10,11,12,13,14,15,16,17,18,19,20,21,22,23,24,25,26,27,28,29,30,31,32,33,34,35,36,37,38,39,40,41,42,43,44,45,46,47,48,49,50,51],[0,1,2,3,4,5,6,7,8,9,10,11,12,13,14,15,16,17,18,19,20,21,22,23,24,25,26,27,28,29,30,31,32,33,34,35,36,37,38,39,40,41,42,43,44,45,46,47,48,49,50,51,52],[0,1,2,3,4,5,6,7,8,9,10,11,12,13,14,15,16,17,18,19,20,21,22,23,24,25,26,27,28,29,30,31,32,33,34,35,36,37,38,39,40,41,42,43,44,45,46,47,48,49,50,51],[0,1,2,3,4,5,6,7,8,9,10,11,12,13,14,15,16,17,18,19,20,21,22,23,24,25,26,27,28,29,30,31,32,33,34,35,36,37,38,39,40,41,42,43,44,45,46,47,48,49,50,51,52,53,54],[0,1,2,3,4,5,6,7,8,9,10,11,12,13,14,15,16,17,18,19,20,21,22,23,24,25,26,27,28,29,30,31,32,33,34,35,36,37,38,39,40,41,42,43,44,45,46,47,48,49,50,51,52,53,54,55],[0,1,2,3,4,5,6,7,8,9,10,11,12,13,14,15,16,17,18,19,20,21,22,23,24,25,26,27,28,29,30,31,32,33,34,35,36,37,38,39,40,41,42,43,44,45,46,47,48,49,50,51,52,53,54,55,56],[0,1,2,3,4,5,6,7,8,9,10,11,12,13,14,15,16,17,18,19,20,21,22,23,24,25,26,27,28,29,30,31,32,33,34,35,36,37,38,39,40,41,42,43,44,45,46,47,48,49,50,51,52,53,54,55,56,57],[0,1,2,3,4,5,6,7,8,9,10,11,12,13,14,15,16,17,18,19,20,21,22,23,24,25,26,27,28,29,30,31,32,33,34,35,36,37,38,39,40,41,42,43,44,45,46,47,48,49,50,51,52,53,54,55,56,57],[0,1,2,3,4,5,6,7,8,9,10,11,12,13,14,15,16,17,18,19,20,21,22,23,24,25,26,27,28,29,30,31,32,33,34,35,36,37,38,39,40,41,42,43,44,45,46,47,48,49,50,51,52,53,54,55,56,57],[0,1,2,3,4,5,6,7,8,9,10,11,12,13,14,15,16,17,18,19,20,21,22,23,24,25,26,27,28,29,30,31,32,33,34,35,36,37,38,39,40,41,42,43,44,45,46,47,48,49,50,51,52,53,54,55,56,57],[0,1,2,3,4,5,6,7,8,9,10,11,12,13,14,15,16,17,18,19,20,21,22,23,24,25,26,27,28,29,30,31,32,33,34,35,36,37,38,39,40,41,42,43,44,45,46,47,48,49,50,51,52,53,54,55,56,57],[0,1,2,3,4,5,6,7,8,9,10,11,12,13,14,15,16,17,18,19,20,21,22,23,24,25,26,27,28,29,30,31,32,33,34,35,36,37,38,39,40,41,42,43,44,45,46,47,48,49,50,51,52,53,54,55,56,57],[0,1,2,3,4,5,6,7,8,9,10,11,12,13,14,15,16,17,18,19,20,21,22,23,24,25,26,27,28,29,30,31,32,33,34,35,36,37,38,39,40,41,42,43,44,45,46,47,48,49,50,51,52,53,54,55,56,57,59,60,61,62,63],[0,1,2,3,4,5,6,7,8,9,10,11,12,13,14,15,16,17,18,19,20,21,22,23,24,25,26,27,28,29,30,31,32,33,34,35,36,37,38,39,40,41,42,43,44,45,46,47,48,49,50,51,52,53,54,55,56,57,58,59,60,61,62,63,64],[0,1,2,3,4,5,6,7,8,9,10,11,12,13,14,15,16,17,18,19,20,21,22,23,24,25,26,27,28,29,30,31,32,33,34,35,36,37,38,39,40,41,42,43,44,45,46,47,48,49,50,51,52,53,54,55,56,57,58,59,60,61,62,63,64,65],[0,1,2,3,4,5,6,7,8,9,10,11,12,13,14,15,16,17,18,19,20,21,22,23,24,25,26,27,28,29,30,31,32,33,34,35,36,37,38,39,40,41,42,43,44,45,46,47,48,49,50,51,52,53,54,55,56,57,58,59,60,61,62,63,64,65,66],[0,1,2,3,4,5,6,7,8,9,10,11,12,13,14,15,16,17,18,19,20,21,22,23,24,25,26,27,28,29,30,31,32,33,34,35,36,37,38,39,40,41,42,43,44,45,46,47,48,49,50,51,52,53,54,55,56,57,58,59,60,61,62,63,64,65,66,67],[0,1,2,3,4,5,6,7,8,9,10,11,12,13,14,15,16,17,18,19,20,21,22,23,24,25,26,27,28,29,30,31,32,33,34,35,36,37,38,39,40,41,42,43,44,45,46,47,48,49,50,51,52,53,54,55,56,57,58,59,60,61,62,63,64,65,66,67],[0,1,2,3,4,5,6,7,8,9,10,11,12,13,14,15,16,17,18,19,20,21,22,23,24,25,26,27,28,29,30,31,32,33,34,35,36,37,38,39,40,41,42,43,44,45,46,47,48,49,50,51,52,53,54,55,56,57,58,59,60,61,62,63,64,65,66,67,68,69],[0,1,2,3,4,5,6,7,8,9,10,11,12,13,14,15,16,17,18,19,20,21,22,23,24,25,26,27,28,29,30,31,32,33,34,35,36,37,38,39,40,41,42,43,44,45,46,47,48,49,50,51,52,53,54,55,56,57,58,59,60,61,62,63,64,65,66,67,68,69,70],[0,1,2,3,4,5,6,7,8,9,10,11,12,13,14,15,16,17,18,19,20,21,22,23,24,25,26,27,28,29,30,31,32,33,34,35,36,37,38,39,40,41,42,43,44,45,46,47,48,49,50,51,52,53,54,55,56,57,58,59,60,61,62,63,64,65,66,67,68,69,70,71]])
.ret)))))))))))
abbrev R_9:RsT:=[(0,none)]
theorem K_9:an Tryz.prog Tryz.f9 125 C_9 R_9 = true:=by kernel_rfl
theorem B_9:af Tryz.prog F_9 = true:=by kernel_rfl
theorem E_9:ag Tryz.prog ⟨9,125,C_9,R_9,0⟩:=⟨fun _=>⟨B_9,_,Tryz.func9,K_9⟩,fun h=>by cases h⟩
abbrev afh:FuncId:=10
def LN:AC:=
(.seq (.reg [oP 2 (.pbox 36 (.t 0)),
oP 4 (.mv (.c .nilptr)),
oP 5 (.mv (cI 0))] [1,2])
(.seq (.seq (.reg [oP 10 (.load (some 36) (.t 2)),
oP 11 (.call (.f 29) [true] [(.t 10)]),
mV 9 11,
oP 12 (.extract (.t 9) 0),
oP 13 (.extract (.t 9) 1),
oP 14 (.extract (.t 9) 2),
mV 6 12,
mV 7 13,
mV 8 14] [1,2,8])
(.seq (.reg [mV 15 8,
oP 16 (.bin .neq (.t 15) (cI 0))] [1,2,8,16])
(.cond (.t 16)
(.seq (.reg [mV 17 8,
oP 4 (.mv (.c .nilptr)),
mV 5 17] [4,5])
.ret)
.skip)))
(.seq (.seq (.reg [mV 18 1,
oP 19 (.len (.t 18)),
oP 20 (.bin .gtr (.t 19) (cI 40)),
mV 21 20,
gF 22 21 (.mv (.t 1)),
gF 23 21 (.call (.f 30) [true,false] [(.t 22),(.f 31)]),
oP 24 (.pick (.t 21) (.c (.bool true)) (.t 23))] [2,24])
(.cond (.t 24)
(.seq (.reg [oP 4 (.mv (.c .nilptr)),
oP 5 (.mv (cI 3))] [4,5])
.ret)
.skip))
(.seq (.reg [oP 25 (.load (some 36) (.t 2)),
oP 26 (.call (.f 32) [true] [(.t 25)]),
mV 4 26,
oP 5 (.mv (cI 0))] [4,5])
.ret))))
abbrev LU:RsT:=[(4,none),(5,none)]
theorem aiT:an Tryz.prog Tryz.f10 27 LN LU = true:=by kernel_rfl
theorem agD:af Tryz.prog afh = true:=by kernel_rfl
theorem ajj:ag Tryz.prog ⟨10,27,LN,LU,2⟩:=⟨fun _=>⟨agD,_,Tryz.func10,aiT⟩,fun h=>by cases h⟩
abbrev pj:FuncId:=11
def I7:AC:=
(.seq (.reg [oP 2 (.pbox 1 (.t 0)),
oP 4 (.alloc [.int .i64 0, .slice 1 []]),
oP 5 (.alloc [.bool false])] [1,2,4,5])
(.seq (.reg [oP 18 (.load none (.t 2)),
oP 19 (.nilchk (.t 18)),
oP 20 (.fieldAddr (some 10) 36 (.t 19)),
oP 21 (.load (some 10) (.t 20)),
oP 6 (.alloc [.int .i64 0, .bool false, .int .i64 0, .int .i64 0, .slice 1 [], .slice 2 [], .slice 3 [], .slice 1 [], .slice 5 [], .slice 4 []]),
oN (.store 10 (.t 6) (.t 21))] [1,2,4,5,6])
(.frz 6 true (.seq (.dfr 22 33 [(.t 6),(.t 4),(.t 5),(.t 2)] [1,2,4,5])
(.seq (.reg [mV 23 1,
⟨some 24,none, .call (.f 34) [false,false] [(.t 23),(.c (.str ⟨#[32]⟩))]⟩,
oP 7 (.alloc [.slice 1 []]),
oN (.store 1 (.t 7) (.t 24))] [2,4,5,7])
(.seq (.reg [oP 25 (.mkfunc (.func 35) [] [(.t 7)]),
mV 8 25] [2,4,5,7,8])
(.seq (.reg [mV 26 8,
oP 27 (.call (.t 26) [] []),
oP 28 (.call (.f 38) [false] [(.t 27)]),
mV 9 28] [2,4,5,7,8,9])
(.seq (.reg [oP 30 (.load none (.t 2)),
oP 31 (.call (.f 39) [false] [(.t 30)]),
mV 32 8,
oP 33 (.call (.t 32) [] []),
oP 34 (.mget true .s (.agg [.str ByteArray.empty, .bool false, .nilfunc]) (.t 31) (.t 33)),
mV 29 34,
oP 35 (.extract (.t 29) 0),
oP 36 (.extract (.t 29) 1),
oP 10 (.alloc [.str ByteArray.empty, .bool false, .nilfunc]),
oN (.store 3 (.t 10) (.t 35)),
mV 11 36] [2,4,5,7,8,9,10,11])
(.frz 10 true (.seq (.reg [mV 37 9,
oP 38 (.bin .geq (.t 37) (cI 0)),
mV 39 38,
gT 40 39 (.mv (.t 11)),
oP 41 (.pick (.t 39) (.t 40) (.c (.bool false))),
mV 42 41,
gT 43 42 (.load none (.t 7)),
gT 44 42 (.len (.t 43)),
gT 45 42 (.fieldAddr none 0 (.t 10)),
gT 46 42 (.load none (.t 45)),
gT 47 42 (.lenStr (.t 46)),
gT 48 42 (.bin .eql (.t 44) (.t 47)),
oP 49 (.pick (.t 42) (.t 48) (.c (.bool false))),
oP 50 (.call (.f 37) [false,false] [(.t 49),(cI 6)]),
oP 51 (.lit 0 1 1 [(0,(.t 50))]),
oP 52 (.call (.f 36) [true] [(.t 51)])] [2,4,5,8,9,10])
(.seq (.reg [oP 12 (.nilS 1 1)] [2,4,5,8,9,10,12])
(.seq (.reg [oP 13 (.nilS 1 1)] [2,4,5,8,9,10,12,13])
(.seq (.seq (.reg [oP 53 (.fieldAddr none 0 (.t 10)),
oP 54 (.load none (.t 53)),
oP 55 (.range (.t 54))] [2,4,5,8,9,10,12,13,55])
(.block 0
(.loop [2,4,5,8,9,10,12,13,55]
(.seq (.reg [oP 56 (.next (.t 55)),
oP 57 (.extract (.t 56) 0)] [2,4,5,8,9,10,12,13,55,56,57])
(.seq (.cond (.t 57)
.skip
(.exit 0))
(.block 1
(.seq (.reg [oP 58 (.extract (.t 56) 2),
mV 15 58] [2,4,5,8,9,10,12,13,15,55])
(.seq (.reg [mV 59 8,
oP 60 (.call (.t 59) [] []),
mV 16 60] [2,4,5,8,9,10,12,13,15,16,55])
(.seq (.reg [mV 61 16,
oP 62 (.call (.f 38) [false] [(.t 61)]),
mV 17 62] [2,4,5,8,9,10,12,13,15,16,17,55])
(.seq (.reg [mV 63 15] [2,4,5,8,9,10,12,13,16,17,55,63])
(.block 2
(.seq (.reg [oP 78 (.bin .eql (.t 63) (.c (.int .i32 115))),
mV 77 78] [2,4,5,8,9,10,12,13,16,17,55,63,77])
(.cond (.t 77)
(.seq (.reg [mV 79 16,
⟨some 80,none, .bin .neq (.t 79) (.c (.str ⟨#[]⟩))⟩,
oP 81 (.call (.f 37) [false,false] [(.t 80),(cI 6)]),
oP 82 (.lit 0 1 1 [(0,(.t 81))]),
oP 83 (.call (.f 36) [true] [(.t 82)])] [2,4,5,8,9,10,12,13,16,55])
(.reg [mV 84 12,
mV 85 16,
oP 86 (.lit 0 1 1 [(0,(.t 85))]),
oP 87 (.append 1 16 (.t 84) (.t 86)),
mV 12 87] [2,4,5,8,9,10,12,13,55]))
(.seq (.reg [oP 89 (.bin .eql (.t 63) (.c (.int .i32 110))),
mV 88 89] [2,4,5,8,9,10,12,13,16,17,55,88])
(.cond (.t 88)
(.seq (.reg [mV 90 17,
oP 91 (.bin .geq (.t 90) (cI 0)),
oP 92 (.call (.f 37) [false,false] [(.t 91),(cI 6)]),
oP 93 (.lit 0 1 1 [(0,(.t 92))]),
oP 94 (.call (.f 36) [true] [(.t 93)])] [2,4,5,8,9,10,12,13,17,55])
(.reg [mV 95 13,
mV 96 17,
oP 97 (.lit 0 1 1 [(0,(.t 96))]),
oP 98 (.append 1 8 (.t 95) (.t 97)),
mV 13 98] [2,4,5,8,9,10,12,13,55]))
(.seq (.reg [mV 64 17,
oP 65 (.bin .geq (.t 64) (cI 0)),
mV 66 65,
gF 67 66 (.mv (.t 16)),
⟨some 68,(some (66,false)), .bin .eql (.t 67) (.c (.str ⟨#[45]⟩))⟩,
oP 69 (.pick (.t 66) (.c (.bool true)) (.t 68)),
oP 70 (.call (.f 37) [false,false] [(.t 69),(cI 6)]),
oP 71 (.lit 0 1 1 [(0,(.t 70))]),
oP 72 (.call (.f 36) [true] [(.t 71)])] [2,4,5,8,9,10,12,13,17,55])
(.reg [mV 73 13,
mV 74 17,
oP 75 (.lit 0 1 1 [(0,(.t 74))]),
oP 76 (.append 1 8 (.t 73) (.t 75)),
mV 13 76] [2,4,5,8,9,10,12,13,55])))))))))))))))))
(.seq (.reg [mV 99 9,
oP 100 (.bin .leq (.t 99) (cI 40000)),
mV 101 100,
gT 102 101 (.mv (.t 9)),
gT 103 101 (.load none (.t 2)),
gT 104 101 (.nilchk (.t 103)),
gT 105 101 (.fieldAddr (some 10) 36 (.t 104)),
gT 106 101 (.fieldAddr none 0 (.t 105)),
gT 107 101 (.load none (.t 106)),
gT 108 101 (.bin .geq (.t 102) (.t 107)),
oP 109 (.pick (.t 101) (.t 108) (.c (.bool false))),
oP 110 (.call (.f 37) [false,false] [(.t 109),(cI 7)]),
oP 111 (.lit 0 1 1 [(0,(.t 110))]),
oP 112 (.call (.f 36) [true] [(.t 111)])] [2,4,5,9,10,12,13])
(.seq (.reg [oP 113 (.fieldAddr none 2 (.t 10)),
oP 114 (.load none (.t 113)),
mV 115 12,
mV 116 13,
oP 117 (.call (.t 114) [true,true] [(.t 115),(.t 116)]),
oP 118 (.fieldAddr none 1 (.t 4)),
oN (.store 1 (.t 118) (.t 117))] [2,4,5,9,10])
(.seq (.seq (.reg [oP 119 (.fieldAddr none 1 (.t 10)),
oP 120 (.load none (.t 119))] [2,4,5,9,10,120])
(.cond (.t 120)
(.reg [oP 121 (.load none (.t 2)),
mV 122 9,
oP 123 (.nilchk (.t 121)),
oP 124 (.fieldAddr (some 10) 36 (.t 123)),
oP 125 (.fieldAddr none 0 (.t 124)),
oN (.store 1 (.t 125) (.t 122))] [4,5,10])
.skip))
(.seq (.dreg [oP 126 (.load (some 2) (.t 4)),
oP 127 (.fieldAddr none 1 (.t 10)),
oP 128 (.load none (.t 127)),
oN (.store 2 (.t 4) (.t 126)),
oN (.store 1 (.t 5) (.t 128))] [4,5] [[],[],[1],[0],[0,1,2,3]])
.ret)))))))))))))))))
abbrev IB:RsT:=[(4,some (some 2)),(5,some none)]
theorem X5:an Tryz.prog Tryz.f11 129 I7 IB = true:=by kernel_rfl
theorem Zu:af Tryz.prog pj = true:=by kernel_rfl
theorem ah4:ag Tryz.prog ⟨11,129,I7,IB,0⟩:=⟨fun _=>⟨Zu,_,Tryz.func11,X5⟩,fun h=>by cases h⟩
abbrev afz:FuncId:=12
def Ky:AC:=
(.seq (.reg [oP 12 (.alloc [.str ByteArray.empty, .int .i64 0, .int .i64 0, .int .i64 0, .slice 1 [], .int .i64 0, .int .i64 0])] [0,1,2,3,4,5,12])
(.seq (.reg [mV 13 0,
mV 14 1,
mV 15 2,
mV 16 3,
mV 17 4,
mV 18 5,
oP 19 (.call (.f 13) [false,false] [(.t 17),(.t 18)]),
oP 20 (.build [.str ByteArray.empty, .int .i64 0, .int .i64 0, .int .i64 0, .slice 1 [], .int .i64 0, .int .i64 0] [(0,1,(.t 13)),(1,1,(.t 14)),(2,1,(.t 15)),(3,1,(.t 16)),(5,2,(.t 19))]),
oN (.store 7 (.t 12) (.t 20))] [12])
.ret))
abbrev Mh:RsT:=[(12,some (some 7))]
theorem aiN:an Tryz.prog Tryz.f12 21 Ky Mh = true:=by kernel_rfl
theorem agP:af Tryz.prog afz = true:=by kernel_rfl
theorem ai8:ag Tryz.prog ⟨12,21,Ky,Mh,0⟩:=⟨fun _=>⟨agP,_,Tryz.func12,aiN⟩,fun h=>by cases h⟩
abbrev agj:FuncId:=13
def KN:AC:=
(.seq (.reg [oP 4 (.alloc [.int .i64 0, .int .i64 0])] [0,1,4])
(.seq (.reg [mV 5 0,
mV 6 1,
oP 7 (.build [.int .i64 0, .int .i64 0] [(0,1,(.t 5)),(1,1,(.t 6))]),
oN (.store 2 (.t 4) (.t 7))] [4])
.ret))
abbrev JV:RsT:=[(4,some (some 2))]
theorem ag4:an Tryz.prog Tryz.f13 8 KN JV = true:=by kernel_rfl
theorem afM:af Tryz.prog agj = true:=by kernel_rfl
theorem ake:ag Tryz.prog ⟨13,8,KN,JV,0⟩:=⟨fun _=>⟨afM,_,Tryz.func13,ag4⟩,fun h=>by cases h⟩
abbrev TK:FuncId:=14
def JH:AC:=
(.seq (.reg [oP 2 (.alloc [.slice 1 [], .slice 1 [], .slice 4 [], .slice 5 [], .slice 4 []])] [0,2])
(.seq (.reg [⟨some 4,none, .lit 0 1 2 [(0,(.c (.str ⟨#[111,105,108]⟩))),(1,(.c (.str ⟨#[112,97,105,110,116]⟩)))]⟩,
⟨some 5,none, .lit 0 1 2 [(0,(.c (.str ⟨#[121,97,114,100]⟩))),(1,(.c (.str ⟨#[112,105,116]⟩)))]⟩,
oP 6 (.call (.f 40) [false,false] [(cI 1000),(cI 1000)]),
oP 7 (.build [.int .i64 0, .int .i64 0, .int .i64 0, .int .i64 0] [(2,2,(.t 6))]),
oP 8 (.lit 0 4 1 [(0,(.t 7))]),
oP 9 (.build [.int .i64 0, .int .i64 0, .int .i64 0, .int .i64 0, .int .i64 0] [(2,1,(cI 1)),(3,1,(cI 600)),(4,1,(cI 1))]),
oP 10 (.build [.int .i64 0, .int .i64 0, .int .i64 0, .int .i64 0, .int .i64 0] [(2,1,(cI 1)),(3,1,(cI 500))]),
oP 11 (.build [.int .i64 0, .int .i64 0, .int .i64 0, .int .i64 0, .int .i64 0] [(2,1,(cI (-1))),(3,1,(cI 300)),(4,1,(cI (-1)))]),
oP 12 (.lit 0 5 3 [(0,(.t 9)),(1,(.t 10)),(2,(.t 11))]),
oP 13 (.call (.f 40) [false,false] [(cI 100),(cI 100)]),
oP 14 (.build [.int .i64 0, .int .i64 0, .int .i64 0, .int .i64 0] [(2,2,(.t 13))]),
oP 15 (.call (.f 40) [false,false] [(cI 600),(cI 600)]),
oP 16 (.build [.int .i64 0, .int .i64 0, .int .i64 0, .int .i64 0] [(1,1,(cI 1)),(2,2,(.t 15))]),
oP 17 (.lit 0 4 2 [(0,(.t 14)),(1,(.t 16))]),
oP 18 (.build [.slice 1 [], .slice 1 [], .slice 4 [], .slice 5 [], .slice 4 []] [(0,1,(.t 4)),(1,1,(.t 5)),(2,1,(.t 8)),(3,1,(.t 12)),(4,1,(.t 17))]),
oP 3 (.alloc [.slice 1 [], .slice 1 [], .slice 4 [], .slice 5 [], .slice 4 []]),
oN (.store 5 (.t 3) (.t 18))] [0,2,3])
(.seq (.seq (.reg [mV 19 0] [2,3,19])
(.cond (.t 19)
(.reg [oP 20 (.call (.f 40) [false,false] [(cI 100),(cI 200)]),
oP 21 (.build [.int .i64 0, .int .i64 0, .int .i64 0, .int .i64 0] [(2,2,(.t 20))]),
oP 22 (.lit 0 4 1 [(0,(.t 21))]),
oP 23 (.fieldAddr none 4 (.t 3)),
oN (.store 1 (.t 23) (.t 22))] [2,3])
.skip))
(.seq (.reg [oP 24 (.loadd (some 5) (.t 3)),
oN (.store 5 (.t 2) (.t 24))] [2])
.ret))))
abbrev Mg:RsT:=[(2,some (some 5))]
theorem ae9:an Tryz.prog Tryz.f14 25 JH Mg = true:=by kernel_rfl
theorem agf:af Tryz.prog TK = true:=by kernel_rfl
theorem ahg:ag Tryz.prog ⟨14,25,JH,Mg,0⟩:=⟨fun _=>⟨agf,_,Tryz.func14,ae9⟩,fun h=>by cases h⟩
abbrev aaJ:FuncId:=15
def JI:AC:=
(.seq (.reg [oP 0 (.alloc [.int .i64 0, .int .i64 0, .int .i64 0, .int .i64 0, .int .i64 0, .slice 5 []])] [0])
(.seq (.reg [oP 1 (.call (.f 41) [false,false] [(cI 20),(cI 25)]),
oP 2 (.call (.f 41) [false,false] [(cI 6000),(cI 12000)]),
oP 3 (.call (.f 41) [false,false] [(cI 500),(cI 520)]),
oP 4 (.call (.f 41) [false,false] [(cI (-10)),(cI 20)]),
oP 5 (.build [.int .i64 0, .int .i64 0, .int .i64 0, .int .i64 0, .int .i64 0] [(0,1,(cI 3)),(1,2,(.t 3)),(3,2,(.t 4))]),
oP 6 (.call (.f 41) [false,false] [(cI 560),(cI 590)]),
oP 7 (.call (.f 41) [false,false] [(cI (-10)),(cI 20)]),
oP 8 (.build [.int .i64 0, .int .i64 0, .int .i64 0, .int .i64 0, .int .i64 0] [(0,1,(cI 17)),(1,2,(.t 6)),(3,2,(.t 7))]),
oP 9 (.lit 0 5 2 [(0,(.t 5)),(1,(.t 8))]),
oP 10 (.build [.int .i64 0, .int .i64 0, .int .i64 0, .int .i64 0, .int .i64 0, .slice 5 []] [(0,2,(.t 1)),(2,2,(.t 2)),(4,1,(cI 50)),(5,1,(.t 9))]),
oN (.store 6 (.t 0) (.t 10))] [0])
.ret))
abbrev Mk:RsT:=[(0,some (some 6))]
theorem ahX:an Tryz.prog Tryz.f15 11 JI Mk = true:=by kernel_rfl
theorem aii:af Tryz.prog aaJ = true:=by kernel_rfl
theorem afs:ag Tryz.prog ⟨15,11,JI,Mk,0⟩:=⟨fun _=>⟨aii,_,Tryz.func15,ahX⟩,fun h=>by cases h⟩
abbrev PF:FuncId:=16
def My:AC:=
(.seq (.reg [oP 0 (.alloc [.int .i64 0, .int .i64 0, .int .i64 0])] [0])
(.seq (.reg [oP 1 (.call (.f 41) [false,false] [(cI 300),(cI 310)]),
oP 2 (.build [.int .i64 0, .int .i64 0, .int .i64 0] [(0,2,(.t 1)),(2,1,(cI 5))]),
oN (.store 3 (.t 0) (.t 2))] [0])
.ret))
abbrev L3:RsT:=[(0,some (some 3))]
theorem ai0:an Tryz.prog Tryz.f16 3 My L3 = true:=by kernel_rfl
theorem agb:af Tryz.prog PF = true:=by kernel_rfl
theorem ag7:ag Tryz.prog ⟨16,3,My,L3,0⟩:=⟨fun _=>⟨agb,_,Tryz.func16,ai0⟩,fun h=>by cases h⟩
abbrev abG:FuncId:=17
def Mr:AC:=
(.seq (.reg [oP 0 (.alloc [.int .i64 0, .int .i64 0, .int .i64 0, .int .i64 0, .int .i64 0, .int .i64 0, .int .i64 0, .slice 2 [], .slice 2 []])] [0])
(.seq (.reg [oP 1 (.call (.f 42) [false,false] [(cI 0),(cI 40)]),
oP 2 (.call (.f 42) [false,false] [(cI 1),(cI 3)]),
oP 3 (.call (.f 42) [false,false] [(cI (-6)),(cI (-4))]),
oP 4 (.call (.f 42) [false,false] [(cI 10),(cI 19)]),
oP 5 (.lit 0 2 1 [(0,(.t 4))]),
⟨some 6,none, .build [.str ByteArray.empty, .int .i64 0] [(0,1,(.c (.str ⟨#[111,108,100]⟩))),(1,1,(cI 5))]⟩,
⟨some 7,none, .build [.str ByteArray.empty, .int .i64 0] [(0,1,(.c (.str ⟨#[110,101,119]⟩))),(1,1,(cI 2))]⟩,
oP 8 (.lit 0 2 2 [(0,(.t 6)),(1,(.t 7))]),
oP 9 (.build [.int .i64 0, .int .i64 0, .int .i64 0, .int .i64 0, .int .i64 0, .int .i64 0, .int .i64 0, .slice 2 [], .slice 2 []] [(0,2,(.t 1)),(2,2,(.t 2)),(4,2,(.t 3)),(6,1,(cI 10)),(7,1,(.t 5)),(8,1,(.t 8))]),
oN (.store 9 (.t 0) (.t 9))] [0])
.ret))
abbrev Ll:RsT:=[(0,some (some 9))]
theorem ahj:an Tryz.prog Tryz.f17 10 Mr Ll = true:=by kernel_rfl
theorem aiU:af Tryz.prog abG = true:=by kernel_rfl
theorem ag9:ag Tryz.prog ⟨17,10,Mr,Ll,0⟩:=⟨fun _=>⟨aiU,_,Tryz.func17,ahj⟩,fun h=>by cases h⟩
abbrev SK:FuncId:=18
def Mz:AC:=
(.seq (.reg [oP 2 (.alloc [.slice 2 [], .slice 3 []])] [0,2])
(.seq (.reg [⟨some 3,none, .build [.str ByteArray.empty, .bool false] [(0,1,(.c (.str ⟨#[97]⟩))),(1,1,(.c (.bool true)))]⟩,
⟨some 4,none, .build [.str ByteArray.empty, .bool false] [(0,1,(.c (.str ⟨#[98]⟩)))]⟩,
⟨some 5,none, .build [.str ByteArray.empty, .bool false] [(0,1,(.c (.str ⟨#[99]⟩)))]⟩,
⟨some 6,none, .build [.str ByteArray.empty, .bool false] [(0,1,(.c (.str ⟨#[100]⟩)))]⟩,
⟨some 7,none, .build [.str ByteArray.empty, .bool false] [(0,1,(.c (.str ⟨#[101]⟩)))]⟩,
oP 8 (.lit 0 2 5 [(0,(.t 3)),(1,(.t 4)),(2,(.t 5)),(3,(.t 6)),(4,(.t 7))]),
mV 9 0,
oP 10 (.build [.int .i64 0, .int .i64 0, .bool false] [(0,1,(cI 0)),(1,1,(cI 1)),(2,1,(.t 9))]),
oP 11 (.build [.int .i64 0, .int .i64 0, .bool false] [(0,1,(cI 1)),(1,1,(cI 2))]),
oP 12 (.build [.int .i64 0, .int .i64 0, .bool false] [(0,1,(cI 0)),(1,1,(cI 2))]),
oP 13 (.build [.int .i64 0, .int .i64 0, .bool false] [(0,1,(cI 2)),(1,1,(cI 3))]),
oP 14 (.build [.int .i64 0, .int .i64 0, .bool false] [(0,1,(cI 3)),(1,1,(cI 4))]),
oP 15 (.build [.int .i64 0, .int .i64 0, .bool false] [(0,1,(cI 2)),(1,1,(cI 4))]),
oP 16 (.lit 0 3 6 [(0,(.t 10)),(1,(.t 11)),(2,(.t 12)),(3,(.t 13)),(4,(.t 14)),(5,(.t 15))]),
oP 17 (.build [.slice 2 [], .slice 3 []] [(0,1,(.t 8)),(1,1,(.t 16))]),
oN (.store 2 (.t 2) (.t 17))] [2])
.ret))
abbrev J7:RsT:=[(2,some (some 2))]
theorem agR:an Tryz.prog Tryz.f18 18 Mz J7 = true:=by kernel_rfl
theorem ahw:af Tryz.prog SK = true:=by kernel_rfl
theorem afU:ag Tryz.prog ⟨18,18,Mz,J7,0⟩:=⟨fun _=>⟨ahw,_,Tryz.func18,agR⟩,fun h=>by cases h⟩
abbrev aca:FuncId:=19
def KD:AC:=
(.seq (.reg [oP 0 (.alloc [.slice 7 [], .int .i64 0, .int .i64 0])] [0])
(.seq (.reg [oP 1 (.call (.f 43) [false,false] [(cI 1000),(cI 1200)]),
oP 2 (.call (.f 43) [false,false] [(cI 10),(cI 12)]),
⟨some 3,none, .build [.str ByteArray.empty, .int .i64 0, .int .i64 0, .int .i64 0, .int .i64 0, .int .i64 0, .int .i64 0] [(0,1,(.c (.str ⟨#[98,111,119]⟩))),(1,1,(cI 100)),(2,2,(.t 1)),(4,1,(cI 50)),(5,2,(.t 2))]⟩,
oP 4 (.call (.f 43) [false,false] [(cI 500),(cI 600)]),
oP 5 (.call (.f 43) [false,false] [(cI 4),(cI 5)]),
⟨some 6,none, .build [.str ByteArray.empty, .int .i64 0, .int .i64 0, .int .i64 0, .int .i64 0, .int .i64 0, .int .i64 0] [(0,1,(.c (.str ⟨#[109,105,100]⟩))),(1,1,(cI 400)),(2,2,(.t 4)),(4,1,(cI 100)),(5,2,(.t 5))]⟩,
oP 7 (.call (.f 43) [false,false] [(cI 2000),(cI 2000)]),
oP 8 (.call (.f 43) [false,false] [(cI 20),(cI 20)]),
⟨some 9,none, .build [.str ByteArray.empty, .int .i64 0, .int .i64 0, .int .i64 0, .int .i64 0, .int .i64 0, .int .i64 0] [(0,1,(.c (.str ⟨#[115,116,101,114,110]⟩))),(1,1,(cI 900)),(2,2,(.t 7)),(4,1,(cI 100)),(5,2,(.t 8))]⟩,
oP 10 (.lit 0 7 3 [(0,(.t 3)),(1,(.t 6)),(2,(.t 9))]),
oP 11 (.build [.slice 7 [], .int .i64 0, .int .i64 0] [(0,1,(.t 10)),(1,1,(cI 200)),(2,1,(cI 800))]),
oN (.store 3 (.t 0) (.t 11))] [0])
.ret))
abbrev J3:RsT:=[(0,some (some 3))]
theorem aj9:an Tryz.prog Tryz.f19 12 KD J3 = true:=by kernel_rfl
theorem ahv:af Tryz.prog aca = true:=by kernel_rfl
theorem afH:ag Tryz.prog ⟨19,12,KD,J3,0⟩:=⟨fun _=>⟨ahv,_,Tryz.func19,aj9⟩,fun h=>by cases h⟩
abbrev Wb:FuncId:=20
def MN:AC:=
(.seq (.reg [oP 0 (.alloc [.int .i64 0, .int .i64 0, .slice 4 []])] [0])
(.seq (.reg [oP 1 (.call (.f 44) [false,false] [(cI 1000),(cI 1200)]),
oP 2 (.call (.f 44) [false,false] [(cI 300),(cI 400)]),
⟨some 3,none, .build [.str ByteArray.empty, .int .i64 0, .int .i64 0, .int .i64 0] [(0,1,(.c (.str ⟨#[99,114,101,119]⟩))),(1,1,(cI 1)),(2,2,(.t 2))]⟩,
oP 4 (.call (.f 44) [false,false] [(cI 600),(cI 800)]),
⟨some 5,none, .build [.str ByteArray.empty, .int .i64 0, .int .i64 0, .int .i64 0] [(0,1,(.c (.str ⟨#[98,97,110,107]⟩))),(1,1,(cI 2)),(2,2,(.t 4))]⟩,
oP 6 (.call (.f 44) [false,false] [(cI 300),(cI 300)]),
⟨some 7,none, .build [.str ByteArray.empty, .int .i64 0, .int .i64 0, .int .i64 0] [(0,1,(.c (.str ⟨#[121,97,114,100]⟩))),(1,1,(cI 2)),(2,2,(.t 6))]⟩,
oP 8 (.call (.f 44) [false,false] [(cI 100),(cI 100)]),
⟨some 9,none, .build [.str ByteArray.empty, .int .i64 0, .int .i64 0, .int .i64 0] [(0,1,(.c (.str ⟨#[102,108,97,103]⟩))),(1,1,(cI 3)),(2,2,(.t 8))]⟩,
oP 10 (.lit 0 4 4 [(0,(.t 3)),(1,(.t 5)),(2,(.t 7)),(3,(.t 9))]),
oP 11 (.build [.int .i64 0, .int .i64 0, .slice 4 []] [(0,2,(.t 1)),(2,1,(.t 10))]),
oN (.store 3 (.t 0) (.t 11))] [0])
.ret))
abbrev J9:RsT:=[(0,some (some 3))]
theorem air:an Tryz.prog Tryz.f20 12 MN J9 = true:=by kernel_rfl
theorem agw:af Tryz.prog Wb = true:=by kernel_rfl
theorem af8:ag Tryz.prog ⟨20,12,MN,J9,0⟩:=⟨fun _=>⟨agw,_,Tryz.func20,air⟩,fun h=>by cases h⟩
abbrev ahE:FuncId:=21
def MV:AC:=
(.seq (.reg [oP 4 (.mv (.c (.bool false)))] [0,1])
(.seq (.reg [mV 7 0,
oP 8 (.len (.t 7)),
mV 9 1,
oP 10 (.len (.t 9)),
oP 11 (.bin .eql (.t 8) (.t 10)),
mV 5 11] [0,1,5])
(.seq (.seq (.reg [oP 6 (.mv (cI 0))] [0,1,5,6])
(.block 0
(.loop [0,1,5,6]
(.seq (.seq (.reg [mV 12 6,
mV 13 0,
oP 14 (.len (.t 13)),
oP 15 (.bin .lss (.t 12) (.t 14)),
mV 16 15,
gT 17 16 (.mv (.t 5)),
oP 18 (.pick (.t 16) (.t 17) (.c (.bool false)))] [0,1,5,6,18])
(.cond (.t 18)
.skip
(.exit 0)))
(.seq (.block 1
(.dreg [mV 21 0,
mV 22 6,
oP 23 (.ixS 1 (.t 21) (.t 22)),
oP 24 (.load none (.t 23)),
mV 25 1,
mV 26 6,
oP 27 (.ixS 1 (.t 25) (.t 26)),
oP 28 (.load none (.t 27)),
oP 29 (.bin .eql (.t 24) (.t 28)),
mV 5 29] [0,1,5,6] [[],[],[0,1],[0,1,2],[],[],[4,5],[4,5,6],[0,1,2,3,4,5,6,7],[0,1,2,3,4,5,6,7,8]]))
(.reg [mV 19 6,
oP 20 (.bin .add (.t 19) (cI 1)),
mV 6 20] [0,1,5,6]))))))
(.seq (.reg [mV 30 5,
mV 4 30] [4])
.ret))))
abbrev Mc:RsT:=[(4,none)]
theorem afy:an Tryz.prog Tryz.f21 31 MV Mc = true:=by kernel_rfl
theorem ah7:af Tryz.prog ahE = true:=by kernel_rfl
theorem ahW:ag Tryz.prog ⟨21,31,MV,Mc,0⟩:=⟨fun _=>⟨ah7,_,Tryz.func21,afy⟩,fun h=>by cases h⟩
abbrev af9:FuncId:=22
def LX:AC:=
(.seq (.reg [oP 2 (.alloc [.int .i64 0, .slice 1 []])] [0,2])
(.seq (.reg [mV 3 0,
oP 4 (.build [.int .i64 0, .slice 1 []] [(0,1,(.t 3))]),
oN (.store 2 (.t 2) (.t 4))] [2])
.ret))
abbrev Mx:RsT:=[(2,some (some 2))]
theorem afJ:an Tryz.prog Tryz.f22 5 LX Mx = true:=by kernel_rfl
theorem ajO:af Tryz.prog af9 = true:=by kernel_rfl
theorem ai2:ag Tryz.prog ⟨22,5,LX,Mx,0⟩:=⟨fun _=>⟨ajO,_,Tryz.func22,afJ⟩,fun h=>by cases h⟩
abbrev agz:FuncId:=23
def KY:AC:=
(.seq (.reg [oP 2 (.alloc [.int .i64 0, .slice 1 []])] [0,2])
(.seq (.reg [mV 3 0,
oP 4 (.build [.int .i64 0, .slice 1 []] [(1,1,(.t 3))]),
oN (.store 2 (.t 2) (.t 4))] [2])
.ret))
abbrev LI:RsT:=[(2,some (some 2))]
theorem aj8:an Tryz.prog Tryz.f23 5 KY LI = true:=by kernel_rfl
theorem ajV:af Tryz.prog agz = true:=by kernel_rfl
theorem ahS:ag Tryz.prog ⟨23,5,KY,LI,0⟩:=⟨fun _=>⟨ajV,_,Tryz.func23,aj8⟩,fun h=>by cases h⟩
abbrev PQ:FuncId:=24
def Ly:AC:=
(.seq (.reg [oP 2 (.pbox 36 (.t 0)),
oP 4 (.alloc [.int .i64 0, .bool false, .int .i64 0, .int .i64 0, .slice 1 [], .slice 2 [], .slice 3 [], .slice 1 [], .slice 5 [], .slice 4 []]),
oP 5 (.mv (cI 0))] [1,2,4])
(.seq (.reg [oP 10 (.load (some 36) (.t 2)),
mV 11 1,
oP 12 (.call (.f 45) [true,true] [(.t 10),(.t 11)]),
mV 9 12,
oP 13 (.extract (.t 9) 0),
oP 14 (.extract (.t 9) 1),
oP 15 (.extract (.t 9) 2),
mV 6 13,
mV 7 14,
mV 8 15] [4,6,8])
(.seq (.seq (.reg [mV 16 8,
oP 17 (.bin .neq (.t 16) (cI 0))] [4,6,8,17])
(.cond (.t 17)
(.seq (.reg [oP 18 (.build [.int .i64 0, .bool false, .int .i64 0, .int .i64 0, .slice 1 [], .slice 2 [], .slice 3 [], .slice 1 [], .slice 5 [], .slice 4 []] []),
mV 19 8,
oN (.store 10 (.t 4) (.t 18)),
mV 5 19] [4,5])
.ret)
.skip))
(.seq (.reg [mV 20 6,
oP 21 (.nilchk (.t 20)),
oP 22 (.fieldAddr (some 10) 36 (.t 21)),
oP 23 (.loadd (some 10) (.t 22)),
oN (.store 10 (.t 4) (.t 23)),
oP 5 (.mv (cI 0))] [4,5])
.ret))))
abbrev Ke:RsT:=[(4,some (some 10)),(5,none)]
theorem ajH:an Tryz.prog Tryz.f24 24 Ly Ke = true:=by kernel_rfl
theorem aj3:af Tryz.prog PQ = true:=by kernel_rfl
theorem aiP:ag Tryz.prog ⟨24,24,Ly,Ke,0⟩:=⟨fun _=>⟨aj3,_,Tryz.func24,ajH⟩,fun h=>by cases h⟩
abbrev Zi:FuncId:=25
def K7:AC:=
(.seq (.reg [oP 2 (.pbox 36 (.t 0)),
⟨some 4,none, .mv (.c (.str ⟨#[]⟩))⟩,
oP 5 (.mv (cI 0))] [1,2])
(.seq (.reg [oP 13 (.load (some 36) (.t 2)),
mV 14 1,
oP 15 (.call (.f 45) [true,true] [(.t 13),(.t 14)]),
mV 12 15,
oP 16 (.extract (.t 12) 0),
oP 17 (.extract (.t 12) 1),
oP 18 (.extract (.t 12) 2),
mV 6 16,
mV 7 17,
mV 8 18] [7,8])
(.seq (.seq (.reg [mV 19 8,
oP 20 (.bin .neq (.t 19) (cI 0))] [7,8,20])
(.cond (.t 20)
(.seq (.reg [mV 21 8,
⟨some 4,none, .mv (.c (.str ⟨#[]⟩))⟩,
mV 5 21] [4,5])
.ret)
.skip))
(.seq (.reg [oP 9 (.allocB)] [7,9])
(.seq (.seq (.reg [mV 22 7,
oP 23 (.len (.t 22)),
oP 24 (.mv (cI 0))] [9,22,23,24])
(.block 0
(.loop [9,22,23,24]
(.seq (.reg [oP 25 (.bin .lss (.t 24) (.t 23))] [9,22,23,24,25])
(.seq (.cond (.t 25)
.skip
(.exit 0))
(.seq (.block 1
(.seq (.reg [oP 26 (.ixS 1 (.t 22) (.t 24)),
oP 27 (.load none (.t 26)),
mV 11 27] [9,11,22,23,24])
(.reg [mV 28 11,
⟨some 29,none, .bin .add (.t 28) (.c (.str ⟨#[10]⟩))⟩,
oP 30 (.call (.f 46) [true,false] [(.t 9),(.t 29)])] [9,22,23,24])))
(.reg [oP 31 (.bin .add (.t 24) (cI 1)),
mV 24 31] [9,22,23,24])))))))
(.seq (.reg [oP 32 (.call (.f 47) [true] [(.t 9)]),
mV 4 32,
oP 5 (.mv (cI 0))] [4,5])
.ret))))))
abbrev MM:RsT:=[(4,none),(5,none)]
theorem agl:an Tryz.prog Tryz.f25 33 K7 MM = true:=by kernel_rfl
theorem aiY:af Tryz.prog Zi = true:=by kernel_rfl
theorem ajY:ag Tryz.prog ⟨25,33,K7,MM,0⟩:=⟨fun _=>⟨aiY,_,Tryz.func25,agl⟩,fun h=>by cases h⟩
abbrev Ku:FuncId:=26
def LO:AC:=
(.seq (.reg [oP 2 (.pbox 36 (.t 0)),
oP 4 (.alloc [.int .i64 0, .bool false, .int .i64 0, .int .i64 0, .slice 1 [], .slice 2 [], .slice 3 [], .slice 1 [], .slice 5 [], .slice 4 []]),
oP 5 (.mv (cI 0))] [1,2,4])
(.scope
(.seq (.seq (.reg [oP 13 (.load (some 36) (.t 2)),
oP 14 (.call (.f 29) [true] [(.t 13)]),
mV 12 14,
oP 15 (.extract (.t 12) 0),
oP 16 (.extract (.t 12) 1),
oP 17 (.extract (.t 12) 2),
mV 5 17] [1,2,4,5])
(.seq (.reg [mV 18 5,
oP 19 (.bin .neq (.t 18) (cI 0))] [1,2,4,5,19])
(.cond (.t 19)
(.seq (.reg [oP 20 (.loadd (some 10) (.t 4)),
mV 21 5,
oN (.store 10 (.t 4) (.t 20)),
mV 5 21] [4,5])
.ret)
.skip)))
(.seq (.reg [oP 6 (.mv (.c (.slice 1 [])))] [1,2,4,6])
(.seq (.block 0
(.seq (.reg [mV 29 1,
oP 30 (.lenStr (.t 29)),
oP 31 (.bin .gtr (.t 30) (cI 3240)),
mV 28 31] [1,2,4,6,28])
(.cond (.t 28)
(.seq (.reg [oP 32 (.loadd (some 10) (.t 4)),
oN (.store 10 (.t 4) (.t 32)),
oP 5 (.mv (cI 3))] [4,5])
.ret)
(.seq (.reg [mV 34 1,
⟨some 35,none, .bin .eql (.t 34) (.c (.str ⟨#[]⟩))⟩,
mV 33 35] [1,2,4,6,33])
(.cond (.t 33)
.skip
(.seq (.reg [mV 37 1,
⟨some 38,none, .call (.f 48) [false,false] [(.t 37),(.c (.str ⟨#[10]⟩))]⟩,
oP 39 (.un .not (.t 38)),
mV 36 39] [1,2,4,36])
(.cond (.t 36)
(.seq (.reg [oP 40 (.loadd (some 10) (.t 4)),
oN (.store 10 (.t 4) (.t 40)),
oP 5 (.mv (cI 6))] [4,5])
.ret)
(.reg [mV 22 1,
mV 23 1,
oP 24 (.lenStr (.t 23)),
oP 25 (.bin .sub (.t 24) (cI 1)),
oP 26 (.subStr (.t 22) none (some (.t 25))),
⟨some 27,none, .call (.f 34) [false,false] [(.t 26),(.c (.str ⟨#[10]⟩))]⟩,
mV 6 27] [2,4,6]))))))))
(.seq (.reg [oP 42 (.load (some 36) (.t 2)),
mV 43 6,
oP 44 (.call (.f 10) [true,true] [(.t 42),(.t 43)]),
mV 41 44,
oP 45 (.extract (.t 41) 0),
oP 46 (.extract (.t 41) 1),
mV 7 45,
mV 5 46] [4,5,6,7])
(.seq (.seq (.reg [mV 47 5,
oP 48 (.bin .neq (.t 47) (cI 0))] [4,5,6,7,48])
(.cond (.t 48)
(.seq (.reg [oP 49 (.loadd (some 10) (.t 4)),
mV 50 5,
oN (.store 10 (.t 4) (.t 49)),
mV 5 50] [4,5])
.ret)
.skip))
(.seq (.reg [oP 5 (.mv (cI 0))] [4,5,6,7])
(.seq (.label 0)
(.seq (.seq (.reg [mV 51 6,
oP 52 (.len (.t 51)),
oP 53 (.mv (cI 0))] [4,5,7,51,52,53])
(.block 1
(.loop [4,5,7,51,52,53]
(.seq (.reg [oP 54 (.bin .lss (.t 53) (.t 52))] [4,5,7,51,52,53,54])
(.seq (.cond (.t 54)
.skip
(.exit 1))
(.seq (.block 2
(.seq (.reg [oP 55 (.ixS 1 (.t 51) (.t 53)),
oP 56 (.load none (.t 55)),
mV 9 56] [4,5,7,9,51,52,53])
(.seq (.reg [mV 58 7,
mV 59 9,
oP 60 (.call (.f 11) [false,false] [(.t 58),(.t 59)]),
mV 57 60,
oP 61 (.extract (.t 57) 0),
oP 62 (.extract (.t 57) 1),
oP 10 (.alloc [.int .i64 0, .slice 1 []]),
oN (.store 2 (.t 10) (.t 61)),
mV 11 62] [4,5,7,11,51,52,53])
(.seq (.reg [mV 63 11,
oP 64 (.un .not (.t 63))] [4,5,7,51,52,53,64])
(.cond (.t 64)
(.seq (.reg [oP 5 (.mv (cI 6))] [4,5,7])
(.exit 1))
.skip)))))
(.reg [oP 65 (.bin .add (.t 53) (cI 1)),
mV 53 65] [4,5,7,51,52,53])))))))
(.seq (.seq (.reg [mV 66 5,
oP 67 (.bin .neq (.t 66) (cI 0))] [4,5,7,67])
(.cond (.t 67)
(.seq (.reg [oP 68 (.build [.int .i64 0, .bool false, .int .i64 0, .int .i64 0, .slice 1 [], .slice 2 [], .slice 3 [], .slice 1 [], .slice 5 [], .slice 4 []] []),
mV 69 5,
oN (.store 10 (.t 4) (.t 68)),
mV 5 69] [4,5])
.ret)
.skip))
(.seq (.reg [mV 70 7,
oP 71 (.nilchk (.t 70)),
oP 72 (.fieldAddr (some 10) 36 (.t 71)),
oP 73 (.loadd (some 10) (.t 72)),
oN (.store 10 (.t 4) (.t 73)),
oP 5 (.mv (cI 0))] [4,5])
.ret))))))))))))
abbrev Kr:RsT:=[(4,some (some 10)),(5,none)]
theorem afg:an Tryz.prog Tryz.f26 74 LO Kr = true:=by kernel_rfl
theorem afT:af Tryz.prog Ku = true:=by kernel_rfl
theorem aiL:ag Tryz.prog ⟨26,74,LO,Kr,0⟩:=⟨fun _=>⟨afT,_,Tryz.func26,afg⟩,fun h=>by cases h⟩
abbrev aeW:FuncId:=27
def Mq:AC:=
(.seq (.reg [oP 2 (.pbox 36 (.t 0)),
oP 4 (.mv (.c (.slice 2 []))),
oP 5 (.alloc [.int .i64 0, .int .i64 0]),
oP 6 (.mv (cI 0))] [1,2,5])
(.seq (.reg [oP 11 (.load (some 36) (.t 2)),
mV 12 1,
oP 13 (.call (.f 45) [true,true] [(.t 11),(.t 12)]),
mV 10 13,
oP 14 (.extract (.t 10) 0),
oP 15 (.extract (.t 10) 1),
oP 16 (.extract (.t 10) 2),
mV 7 14,
mV 8 15,
mV 6 16] [5,6,7])
(.seq (.seq (.reg [mV 17 6,
oP 18 (.bin .neq (.t 17) (cI 0))] [5,6,7,18])
(.cond (.t 18)
(.seq (.dreg [oP 19 (.load (some 2) (.t 5)),
mV 20 6,
oP 4 (.mv (.c (.slice 2 []))),
oN (.store 2 (.t 5) (.t 19)),
mV 6 20] [4,5,6] [[],[],[],[0,2],[0,1,2,3]])
.ret)
.skip))
(.seq (.reg [mV 21 7,
oP 22 (.call (.f 49) [false] [(.t 21)]),
oP 9 (.alloc [.int .i64 0, .int .i64 0, .int .i64 0, .int .i64 0, .int .i64 0, .int .i64 0, .int .i64 0, .int .i64 0, .int .i64 0, .int .i64 0, .int .i64 0, .int .i64 0]),
oN (.store 12 (.t 9) (.t 22))] [5,9])
(.frz 9 true (.seq (.qreg [oP 23 (.subA 6 1002 (.t 9)),
oP 24 (.call (.f 50) [true] [(.t 23)]),
oP 25 (.ixA 6 2 (some 2) (.t 9) (cI 0)),
oP 26 (.load (some 2) (.t 25)),
oP 4 (.mvd (.t 24)),
oN (.store 2 (.t 5) (.t 26)),
oP 6 (.mv (cI 0))] [4,5,6] [[],[0],[],[2],[0,1],[0,1,2,3,4],[0,1,2,3,4,5]] [([2,3],0),([],1),([],4),([],5)] [6])
.ret))))))
abbrev LC:RsT:=[(4,none),(5,some (some 2)),(6,none)]
theorem aiQ:an Tryz.prog Tryz.f27 27 Mq LC = true:=by kernel_rfl
theorem ag1:af Tryz.prog aeW = true:=by kernel_rfl
theorem aki:ag Tryz.prog ⟨27,27,Mq,LC,0⟩:=⟨fun _=>⟨ag1,_,Tryz.func27,aiQ⟩,fun h=>by cases h⟩
abbrev aio:FuncId:=28
def K0:AC:=
(.seq (.reg [oP 4 (.mv (.c (.bool false)))] [0,1])
(.seq (.reg [mV 7 0,
oP 8 (.len (.t 7)),
mV 9 1,
oP 10 (.len (.t 9)),
oP 11 (.bin .eql (.t 8) (.t 10)),
mV 5 11] [0,1,5])
(.seq (.seq (.reg [oP 6 (.mv (cI 0))] [0,1,5,6])
(.block 0
(.loop [0,1,5,6]
(.seq (.seq (.reg [mV 12 6,
mV 13 0,
oP 14 (.len (.t 13)),
oP 15 (.bin .lss (.t 12) (.t 14)),
mV 16 15,
gT 17 16 (.mv (.t 5)),
oP 18 (.pick (.t 16) (.t 17) (.c (.bool false)))] [0,1,5,6,18])
(.cond (.t 18)
.skip
(.exit 0)))
(.seq (.block 1
(.dreg [mV 21 0,
mV 22 6,
oP 23 (.ixS 2 (.t 21) (.t 22)),
oP 24 (.load (some 2) (.t 23)),
mV 25 1,
mV 26 6,
oP 27 (.ixS 2 (.t 25) (.t 26)),
oP 28 (.load (some 2) (.t 27)),
oP 29 (.eqa false [.i, .i] (.t 24) (.t 28)),
mV 5 29] [0,1,5,6] [[],[],[0,1],[0,1,2],[],[],[4,5],[4,5,6],[0,1,2,3,4,5,6,7],[0,1,2,3,4,5,6,7,8]]))
(.reg [mV 19 6,
oP 20 (.bin .add (.t 19) (cI 1)),
mV 6 20] [0,1,5,6]))))))
(.seq (.reg [mV 30 5,
mV 4 30] [4])
.ret))))
abbrev K2:RsT:=[(4,none)]
theorem ae8:an Tryz.prog Tryz.f28 31 K0 K2 = true:=by kernel_rfl
theorem ah2:af Tryz.prog aio = true:=by kernel_rfl
theorem ag8:ag Tryz.prog ⟨28,31,K0,K2,0⟩:=⟨fun _=>⟨ah2,_,Tryz.func28,ae8⟩,fun h=>by cases h⟩
abbrev Zb:FuncId:=29
def K4:AC:=
(.seq (.reg [oP 1 (.pbox 36 (.t 0)),
oP 2 (.mv (cI 0)),
oP 3 (.mv (cI 0)),
oP 4 (.mv (cI 0))] [1])
(.seq (.seq (.reg [oP 6 (.fieldAddr (some 2) 0 (.t 1)),
oP 7 (.load (some 2) (.t 6)),
oP 8 (.call (.f 51) [true] [(.t 7)]),
mV 5 8,
oP 9 (.extract (.t 5) 0),
oP 10 (.extract (.t 5) 1),
oP 11 (.extract (.t 5) 2),
mV 4 11] [1,4])
(.seq (.reg [mV 12 4,
oP 13 (.bin .neq (.t 12) (cI 0))] [1,4,13])
(.cond (.t 13)
(.seq (.reg [mV 14 4,
oP 2 (.mv (cI 1)),
oP 3 (.mv (cI 0)),
mV 4 14] [2,3,4])
.ret)
.skip)))
(.seq (.seq (.reg [oP 16 (.fieldAddr (some 6) 2 (.t 1)),
oP 17 (.load (some 6) (.t 16)),
oP 18 (.fieldAddr (some 3) 8 (.t 1)),
oP 19 (.load (some 3) (.t 18)),
oP 20 (.call (.f 52) [true,false] [(.t 17),(.t 19)]),
mV 15 20,
oP 21 (.extract (.t 15) 0),
oP 22 (.extract (.t 15) 1),
oP 23 (.extract (.t 15) 2),
mV 4 23] [1,4])
(.seq (.reg [mV 24 4,
oP 25 (.bin .neq (.t 24) (cI 0))] [1,4,25])
(.cond (.t 25)
(.seq (.reg [mV 26 4,
oP 2 (.mv (cI 2)),
oP 3 (.mv (cI 0)),
mV 4 26] [2,3,4])
.ret)
.skip)))
(.seq (.seq (.reg [oP 28 (.fieldAddr (some 9) 11 (.t 1)),
oP 29 (.load (some 9) (.t 28)),
oP 30 (.call (.f 53) [true] [(.t 29)]),
mV 27 30,
oP 31 (.extract (.t 27) 0),
oP 32 (.extract (.t 27) 1),
oP 33 (.extract (.t 27) 2),
mV 4 33] [1,4])
(.seq (.reg [mV 34 4,
oP 35 (.bin .neq (.t 34) (cI 0))] [1,4,35])
(.cond (.t 35)
(.seq (.reg [mV 36 4,
oP 2 (.mv (cI 3)),
oP 3 (.mv (cI 0)),
mV 4 36] [2,3,4])
.ret)
.skip)))
(.seq (.seq (.reg [oP 38 (.load (some 36) (.t 1)),
oP 39 (.call (.f 32) [true] [(.t 38)]),
oP 40 (.call (.f 55) [false] [(.t 39)]),
oP 41 (.call (.f 54) [true] [(.t 40)]),
mV 37 41,
oP 42 (.extract (.t 37) 0),
oP 43 (.extract (.t 37) 1),
oP 44 (.extract (.t 37) 2),
mV 3 42,
mV 4 44] [1,3,4])
(.seq (.reg [mV 45 4,
oP 46 (.bin .neq (.t 45) (cI 0))] [1,3,4,46])
(.cond (.t 46)
(.seq (.reg [mV 47 3,
mV 48 4,
oP 2 (.mv (cI 4)),
mV 3 47,
mV 4 48] [2,3,4])
.ret)
.skip)))
(.seq (.seq (.reg [oP 50 (.fieldAddr (some 5) 28 (.t 1)),
oP 51 (.load (some 5) (.t 50)),
oP 52 (.call (.f 56) [true] [(.t 51)]),
mV 49 52,
oP 53 (.extract (.t 49) 0),
oP 54 (.extract (.t 49) 1),
oP 55 (.extract (.t 49) 2),
mV 4 55] [1,4])
(.seq (.reg [mV 56 4,
oP 57 (.bin .neq (.t 56) (cI 0))] [1,4,57])
(.cond (.t 57)
(.seq (.reg [mV 58 4,
oP 2 (.mv (cI 5)),
oP 3 (.mv (cI 0)),
mV 4 58] [2,3,4])
.ret)
.skip)))
(.seq (.seq (.reg [oP 59 (.fieldAddr (some 5) 28 (.t 1)),
oP 60 (.fieldAddr none 3 (.t 59)),
oP 61 (.load none (.t 60)),
oP 62 (.len (.t 61)),
oP 63 (.bin .gtr (.t 62) (cI 0)),
mV 64 63,
gF 65 64 (.fieldAddr (some 5) 28 (.t 1)),
gF 66 64 (.fieldAddr none 4 (.t 65)),
gF 67 64 (.load none (.t 66)),
gF 68 64 (.len (.t 67)),
gF 69 64 (.bin .gtr (.t 68) (cI 0)),
oP 70 (.pick (.t 64) (.c (.bool true)) (.t 69))] [1,70])
(.cond (.t 70)
(.seq (.reg [oP 2 (.mv (cI 5)),
oP 3 (.mv (cI 0)),
oP 4 (.mv (cI 2))] [2,3,4])
.ret)
.skip))
(.seq (.seq (.reg [oP 72 (.fieldAddr (some 3) 33 (.t 1)),
oP 73 (.load (some 3) (.t 72)),
oP 74 (.call (.f 57) [true] [(.t 73)]),
mV 71 74,
oP 75 (.extract (.t 71) 0),
oP 76 (.extract (.t 71) 1),
oP 77 (.extract (.t 71) 2),
mV 4 77] [4])
(.seq (.reg [mV 78 4,
oP 79 (.bin .neq (.t 78) (cI 0))] [4,79])
(.cond (.t 79)
(.seq (.reg [mV 80 4,
oP 2 (.mv (cI 6)),
oP 3 (.mv (cI 0)),
mV 4 80] [2,3,4])
.ret)
.skip)))
(.seq (.reg [oP 2 (.mv (cI 0)),
oP 3 (.mv (cI 0)),
oP 4 (.mv (cI 0))] [2,3,4])
.ret)))))))))
abbrev M5:RsT:=[(2,none),(3,none),(4,none)]
theorem ajG:an Tryz.prog Tryz.f29 81 K4 M5 = true:=by kernel_rfl
theorem aiB:af Tryz.prog Zb = true:=by kernel_rfl
theorem aji:ag Tryz.prog ⟨29,81,K4,M5,0⟩:=⟨fun _=>⟨aiB,_,Tryz.func29,ajG⟩,fun h=>by cases h⟩
abbrev af4:FuncId:=30
def Lb:AC:=
(.seq (.reg [oP 4 (.mv (.c (.bool false)))] [0,1])
(.seq (.reg [mV 5 0,
mV 6 1,
oP 7 (.call (.f 58) [true,false] [(.t 5),(.t 6)]),
oP 8 (.bin .geq (.t 7) (cI 0)),
mV 4 8] [4])
.ret))
abbrev LF:RsT:=[(4,none)]
theorem ahA:an Tryz.prog Tryz.f30 9 Lb LF = true:=by kernel_rfl
theorem ajb:af Tryz.prog af4 = true:=by kernel_rfl
theorem ahk:ag Tryz.prog ⟨30,9,Lb,LF,0⟩:=⟨fun _=>⟨ajb,_,Tryz.func30,ahA⟩,fun h=>by cases h⟩
abbrev agp:FuncId:=31
def Kz:AC:=
(.seq (.reg [oP 2 (.mv (.c (.bool false)))] [0])
(.seq (.reg [mV 3 0,
oP 4 (.lenStr (.t 3)),
oP 5 (.bin .gtr (.t 4) (cI 80)),
mV 2 5] [2])
.ret))
abbrev JT:RsT:=[(2,none)]
theorem ajc:an Tryz.prog Tryz.f31 6 Kz JT = true:=by kernel_rfl
theorem agU:af Tryz.prog agp = true:=by kernel_rfl
theorem afB:ag Tryz.prog ⟨31,6,Kz,JT,0⟩:=⟨fun _=>⟨agU,_,Tryz.func31,ajc⟩,fun h=>by cases h⟩
abbrev ah3:FuncId:=32
def Mw:AC:=
(.seq (.reg [oP 1 (.pbox 36 (.t 0)),
oP 2 (.mv (.c .nilptr))] [1])
(.seq (.reg [oP 6 (.fieldAddr (some 2) 0 (.t 1)),
oP 7 (.load (some 2) (.t 6)),
oP 8 (.call (.f 59) [true,false] [(.t 7),(cI 40000)]),
mV 5 8,
oP 9 (.extract (.t 5) 0),
oP 10 (.extract (.t 5) 1),
oP 3 (.alloc [.slice 7 []]),
oN (.store 1 (.t 3) (.t 9)),
mV 4 10] [1,3])
(.frz 3 true (.seq (.reg [oP 11 (.load (some 36) (.t 1)),
oP 12 (.fieldAddr none 0 (.t 3)),
oP 13 (.load none (.t 12)),
oP 14 (.build [.slice 7 [], .slice 10 [], .int .i64 0, .int .i64 0, .int .i64 0, .int .i64 0, .int .i64 0, .slice 5 [], .int .i64 0, .int .i64 0, .int .i64 0, .int .i64 0, .int .i64 0, .int .i64 0, .int .i64 0, .int .i64 0, .int .i64 0, .int .i64 0, .slice 2 [], .slice 2 [], .slice 2 [], .slice 3 [], .slice 7 [], .int .i64 0, .int .i64 0, .int .i64 0, .int .i64 0, .slice 1 [], .slice 1 [], .slice 1 [], .slice 4 [], .slice 5 [], .slice 4 [], .int .i64 0, .int .i64 0, .slice 4 [], .int .i64 0, .bool false, .int .i64 0, .int .i64 0, .slice 1 [], .slice 2 [], .slice 3 [], .slice 1 [], .slice 5 [], .slice 4 [], .slice 7 []] [(0,36,(.t 11)),(46,1,(.t 13))]),
oP 15 (.box 47 (.t 14)),
mV 2 15] [2])
.ret))))
abbrev JK:RsT:=[(2,none)]
theorem ajk:an Tryz.prog Tryz.f32 16 Mw JK = true:=by kernel_rfl
theorem akd:af Tryz.prog ah3 = true:=by kernel_rfl
theorem ahR:ag Tryz.prog ⟨32,16,Mw,JK,2⟩:=⟨fun _=>⟨akd,_,Tryz.func32,ajk⟩,fun h=>by cases h⟩
abbrev Kg:FuncId:=33
def IH:AC:=
(.seq (.reg [mV 6 4,
oP 7 (.isnil true (.t 6))] [0,1,2,3,4,7])
(.cond (.t 7)
(.dreg [oP 8 (.load none (.t 3)),
mV 9 4,
oP 10 (.assert 25 (.t 9)),
oP 11 (.build [.int .i64 0, .slice 1 []] [(0,1,(.t 10))]),
oP 12 (.load (some 10) (.t 0)),
oN (.store 2 (.t 1) (.t 11)),
oN (.store 1 (.t 2) (.c (.bool false))),
oP 13 (.nilchk (.t 8)),
oP 14 (.fieldAddr (some 10) 36 (.t 13)),
oN (.store 10 (.t 14) (.t 12))] [] [[],[],[1],[1,2],[],[0,1,2,3,4],[0,1,2,3,4,5],[0,1,2,3,4,5,6],[0,1,2,3,4,5,6,7],[0,1,2,3,4,5,6,7,8]])
.skip))
theorem eQ:lQ Tryz.prog Tryz.f33 15 5 4 IH = true:=by kernel_rfl
theorem ajN {args:List aa} {σ:ab} {m:PM} {Q:PM → ab → Prop} (ha:args.length ≤ 15) (h:AW Tryz.prog 15 none IH (jU (Q m.after)) { v:=(4,m.val) :: (5, .undef) :: bF args 0,ds:=[] } σ):eH Tryz.prog Kg args σ m Q:=eH.pG Tryz.func33 eQ ha h
theorem RZ:af Tryz.prog Kg = true:=by kernel_rfl
theorem ajz:tD Tryz.prog 33 15:=⟨RZ,fun caps hl σ=>ajN hl (aE _ (by simp [IH]))⟩
theorem agS:ag Tryz.prog ⟨33,15, .skip,[],1⟩:=⟨fun h=>absurd rfl h,fun _=>ajz⟩
abbrev Iy:FuncId:=34
theorem ahr:af Tryz.prog Iy = true:=by kernel_rfl
abbrev aiX:FuncId:=35
def Li:AC:=
(.seq (.reg [⟨some 1,none, .mv (.c (.str ⟨#[]⟩))⟩] [0])
(.seq (.reg [oP 3 (.load none (.t 0)),
oP 4 (.len (.t 3)),
oP 5 (.bin .gtr (.t 4) (cI 0)),
oP 6 (.call (.f 37) [false,false] [(.t 5),(cI 6)]),
oP 7 (.lit 0 1 1 [(0,(.t 6))]),
oP 8 (.call (.f 36) [true] [(.t 7)])] [0])
(.seq (.reg [oP 9 (.load none (.t 0)),
oP 10 (.ixS 1 (.t 9) (cI 0)),
oP 11 (.load none (.t 10)),
mV 2 11] [0,2])
(.seq (.reg [oP 12 (.load none (.t 0)),
oP 13 (.subq 1 (.t 12) (some (cI 1)) none),
oN (.store 1 (.t 0) (.t 13))] [2])
(.seq (.reg [mV 14 2,
mV 1 14] [1])
.ret)))))
abbrev L8:RsT:=[(1,none)]
theorem aiE:an Tryz.prog Tryz.f35 15 Li L8 = true:=by kernel_rfl
theorem aix:af Tryz.prog aiX = true:=by kernel_rfl
theorem ahm:ag Tryz.prog ⟨35,15,Li,L8,0⟩:=⟨fun _=>⟨aix,_,Tryz.func35,aiE⟩,fun h=>by cases h⟩
abbrev ajn:FuncId:=36
def JM:AC:=
(.seq (.reg [mV 4 0,
oP 5 (.len (.t 4)),
oP 6 (.mv (cI 0))] [4,5,6])
(.block 0
(.loop [4,5,6]
(.seq (.reg [oP 7 (.bin .lss (.t 6) (.t 5))] [4,5,6,7])
(.seq (.cond (.t 7)
.skip
(.exit 0))
(.seq (.block 1
(.seq (.reg [oP 8 (.ixS 1 (.t 4) (.t 6)),
oP 9 (.load none (.t 8)),
mV 3 9] [3,4,5,6])
(.seq (.reg [mV 10 3,
oP 11 (.bin .neq (.t 10) (cI 0))] [3,4,5,6,11])
(.cond (.t 11)
(.reg [mV 12 3,
oP 13 (.mkiface 25 (.t 12)),
oN (.panic (.t 13))] [4,5,6])
.skip))))
(.reg [oP 14 (.bin .add (.t 6) (cI 1)),
mV 6 14] [4,5,6])))))))
abbrev K1:RsT:=[]
theorem ajs:an Tryz.prog Tryz.f36 15 JM K1 = true:=by kernel_rfl
theorem ahM:af Tryz.prog ajn = true:=by kernel_rfl
theorem aju:ag Tryz.prog ⟨36,15,JM,K1,0⟩:=⟨fun _=>⟨ahM,_,Tryz.func36,ajs⟩,fun h=>by cases h⟩
abbrev agA:FuncId:=37
def KL:AC:=
(.seq (.reg [oP 4 (.mv (cI 0))] [0,1])
(.seq (.seq (.reg [mV 5 0] [1,5])
(.cond (.t 5)
(.seq (.reg [oP 4 (.mv (cI 0))] [4])
.ret)
.skip))
(.seq (.reg [mV 6 1,
mV 4 6] [4])
.ret)))
abbrev L7:RsT:=[(4,none)]
theorem ahB:an Tryz.prog Tryz.f37 7 KL L7 = true:=by kernel_rfl
theorem agY:af Tryz.prog agA = true:=by kernel_rfl
theorem afp:ag Tryz.prog ⟨37,7,KL,L7,0⟩:=⟨fun _=>⟨agY,_,Tryz.func37,ahB⟩,fun h=>by cases h⟩
abbrev eR:FuncId:=38
def JX:AC:=
(.seq (.reg [oP 2 (.mv (cI 0))] [0])
(.seq (.reg [mV 6 0,
oP 7 (.call (.f 61) [false] [(.t 6)]),
mV 5 7,
oP 8 (.extract (.t 5) 0),
oP 9 (.extract (.t 5) 1),
mV 3 8,
mV 4 9] [0,3,4])
(.seq (.seq (.reg [mV 10 4,
oP 11 (.isnil true (.t 10)),
mV 12 11,
gF 13 12 (.mv (.t 3)),
gF 14 12 (.bin .lss (.t 13) (cI 0)),
oP 15 (.pick (.t 12) (.c (.bool true)) (.t 14)),
mV 16 15,
gF 17 16 (.mv (.t 0)),
gF 18 16 (.lenStr (.t 17)),
gF 19 16 (.bin .gtr (.t 18) (cI 9)),
oP 20 (.pick (.t 16) (.c (.bool true)) (.t 19)),
mV 21 20,
gF 22 21 (.mv (.t 3)),
gF 23 21 (.call (.f 62) [false] [(.t 22)]),
gF 24 21 (.mv (.t 0)),
gF 25 21 (.bin .neq (.t 23) (.t 24)),
oP 26 (.pick (.t 21) (.c (.bool true)) (.t 25))] [3,26])
(.cond (.t 26)
(.seq (.reg [oP 2 (.mv (cI (-1)))] [2])
.ret)
.skip))
(.seq (.reg [mV 27 3,
mV 2 27] [2])
.ret))))
abbrev Kw:RsT:=[(2,none)]
theorem ahz:an Tryz.prog Tryz.f38 28 JX Kw = true:=by kernel_rfl
theorem ajR:af Tryz.prog eR = true:=by kernel_rfl
theorem ah5:ag Tryz.prog ⟨38,28,JX,Kw,0⟩:=⟨fun _=>⟨ajR,_,Tryz.func38,ahz⟩,fun h=>by cases h⟩
abbrev agH:FuncId:=39
def Kc:AC:=
(.seq (.reg [oP 2 (.mv (.c .nilmap))] [0])
(.seq (.reg [oP 3 (.mnew),
mV 4 0,
oP 5 (.mkfunc (.func 63) [(.t 4)] []),
⟨some 6,none, .build [.str ByteArray.empty, .bool false, .nilfunc] [(0,1,(.c (.str ⟨#[110,110]⟩))),(1,1,(.c (.bool true))),(2,1,(.t 5))]⟩,
⟨none,none, .mset .s (.t 3) (.c (.str ⟨#[114,117,110]⟩)) (.t 6)⟩,
mV 7 0,
oP 8 (.mkfunc (.func 64) [(.t 7)] []),
⟨some 9,none, .build [.str ByteArray.empty, .bool false, .nilfunc] [(0,1,(.c (.str ⟨#[110]⟩))),(1,1,(.c (.bool true))),(2,1,(.t 8))]⟩,
⟨none,none, .mset .s (.t 3) (.c (.str ⟨#[98,108,97,110,107]⟩)) (.t 9)⟩,
mV 10 0,
oP 11 (.mkfunc (.func 65) [(.t 10)] []),
⟨some 12,none, .build [.str ByteArray.empty, .bool false, .nilfunc] [(0,1,(.c (.str ⟨#[115]⟩))),(1,1,(.c (.bool true))),(2,1,(.t 11))]⟩,
⟨none,none, .mset .s (.t 3) (.c (.str ⟨#[98,108,111,119]⟩)) (.t 12)⟩,
mV 13 0,
oP 14 (.mkfunc (.func 66) [(.t 13)] []),
⟨some 15,none, .build [.str ByteArray.empty, .bool false, .nilfunc] [(0,1,(.c (.str ⟨#[115]⟩))),(1,1,(.c (.bool true))),(2,1,(.t 14))]⟩,
⟨none,none, .mset .s (.t 3) (.c (.str ⟨#[111,102,102]⟩)) (.t 15)⟩,
mV 16 0,
oP 17 (.mkfunc (.func 67) [(.t 16)] []),
⟨some 18,none, .build [.str ByteArray.empty, .bool false, .nilfunc] [(0,1,(.c (.str ⟨#[110,115,110]⟩))),(1,1,(.c (.bool true))),(2,1,(.t 17))]⟩,
⟨none,none, .mset .s (.t 3) (.c (.str ⟨#[114,101,97,100]⟩)) (.t 18)⟩,
mV 19 0,
oP 20 (.mkfunc (.func 68) [(.t 19)] []),
⟨some 21,none, .build [.str ByteArray.empty, .bool false, .nilfunc] [(0,1,(.c (.str ⟨#[115,110]⟩))),(1,1,(.c (.bool true))),(2,1,(.t 20))]⟩,
⟨none,none, .mset .s (.t 3) (.c (.str ⟨#[99,117,116]⟩)) (.t 21)⟩,
mV 22 0,
oP 23 (.mkfunc (.func 69) [(.t 22)] []),
⟨some 24,none, .build [.str ByteArray.empty, .bool false, .nilfunc] [(0,1,(.c (.str ⟨#[115,115,115,110,99]⟩))),(1,1,(.c (.bool true))),(2,1,(.t 23))]⟩,
⟨none,none, .mset .s (.t 3) (.c (.str ⟨#[112,97,112,101,114]⟩)) (.t 24)⟩,
mV 25 0,
oP 26 (.mkfunc (.func 70) [(.t 25)] []),
⟨some 27,none, .build [.str ByteArray.empty, .bool false, .nilfunc] [(0,1,(.c (.str ⟨#[115,115,110,110]⟩))),(1,1,(.c (.bool true))),(2,1,(.t 26))]⟩,
⟨none,none, .mset .s (.t 3) (.c (.str ⟨#[102,111,117,110,100]⟩)) (.t 27)⟩,
mV 28 0,
oP 29 (.mkfunc (.func 71) [(.t 28)] []),
⟨some 30,none, .build [.str ByteArray.empty, .bool false, .nilfunc] [(0,1,(.c (.str ⟨#[]⟩))),(1,1,(.c (.bool false))),(2,1,(.t 29))]⟩,
⟨none,none, .mset .s (.t 3) (.c (.str ⟨#[102,114,101,101]⟩)) (.t 30)⟩,
mV 31 0,
oP 32 (.mkfunc (.func 72) [(.t 31)] []),
⟨some 33,none, .build [.str ByteArray.empty, .bool false, .nilfunc] [(0,1,(.c (.str ⟨#[110]⟩))),(1,1,(.c (.bool false))),(2,1,(.t 32))]⟩,
⟨none,none, .mset .s (.t 3) (.c (.str ⟨#[116,111,114,99,104]⟩)) (.t 33)⟩,
mV 34 0,
oP 35 (.mkfunc (.func 73) [(.t 34)] []),
⟨some 36,none, .build [.str ByteArray.empty, .bool false, .nilfunc] [(0,1,(.c (.str ⟨#[]⟩))),(1,1,(.c (.bool false))),(2,1,(.t 35))]⟩,
⟨none,none, .mset .s (.t 3) (.c (.str ⟨#[109,97,121]⟩)) (.t 36)⟩,
mV 37 0,
oP 38 (.mkfunc (.func 74) [(.t 37)] []),
⟨some 39,none, .build [.str ByteArray.empty, .bool false, .nilfunc] [(0,1,(.c (.str ⟨#[]⟩))),(1,1,(.c (.bool false))),(2,1,(.t 38))]⟩,
⟨none,none, .mset .s (.t 3) (.c (.str ⟨#[104,101,97,112,115]⟩)) (.t 39)⟩,
mV 40 0,
oP 41 (.mkfunc (.func 75) [(.t 40)] []),
⟨some 42,none, .build [.str ByteArray.empty, .bool false, .nilfunc] [(0,1,(.c (.str ⟨#[]⟩))),(1,1,(.c (.bool false))),(2,1,(.t 41))]⟩,
⟨none,none, .mset .s (.t 3) (.c (.str ⟨#[102,97,108,115,101]⟩)) (.t 42)⟩,
mV 43 0,
oP 44 (.mkfunc (.func 76) [(.t 43)] []),
⟨some 45,none, .build [.str ByteArray.empty, .bool false, .nilfunc] [(0,1,(.c (.str ⟨#[]⟩))),(1,1,(.c (.bool false))),(2,1,(.t 44))]⟩,
⟨none,none, .mset .s (.t 3) (.c (.str ⟨#[112,97,121,115]⟩)) (.t 45)⟩,
mV 46 3,
mV 2 46] [2])
.ret))
abbrev Lr:RsT:=[(2,none)]
theorem aje:an Tryz.prog Tryz.f39 47 Kc Lr = true:=by kernel_rfl
theorem ae6:af Tryz.prog agH = true:=by kernel_rfl
theorem ahU:ag Tryz.prog ⟨39,47,Kc,Lr,2⟩:=⟨fun _=>⟨ae6,_,Tryz.func39,aje⟩,fun h=>by cases h⟩
abbrev ajp:FuncId:=40
def KH:AC:=
(.seq (.reg [oP 4 (.alloc [.int .i64 0, .int .i64 0])] [0,1,4])
(.seq (.reg [mV 5 0,
mV 6 1,
oP 7 (.build [.int .i64 0, .int .i64 0] [(0,1,(.t 5)),(1,1,(.t 6))]),
oN (.store 2 (.t 4) (.t 7))] [4])
.ret))
abbrev KT:RsT:=[(4,some (some 2))]
theorem aiW:an Tryz.prog Tryz.f40 8 KH KT = true:=by kernel_rfl
theorem afY:af Tryz.prog ajp = true:=by kernel_rfl
theorem ae7:ag Tryz.prog ⟨40,8,KH,KT,0⟩:=⟨fun _=>⟨afY,_,Tryz.func40,aiW⟩,fun h=>by cases h⟩
abbrev ajC:FuncId:=41
def KC:AC:=
(.seq (.reg [oP 4 (.alloc [.int .i64 0, .int .i64 0])] [0,1,4])
(.seq (.reg [mV 5 0,
mV 6 1,
oP 7 (.build [.int .i64 0, .int .i64 0] [(0,1,(.t 5)),(1,1,(.t 6))]),
oN (.store 2 (.t 4) (.t 7))] [4])
.ret))
abbrev Mo:RsT:=[(4,some (some 2))]
theorem ajJ:an Tryz.prog Tryz.f41 8 KC Mo = true:=by kernel_rfl
theorem afR:af Tryz.prog ajC = true:=by kernel_rfl
theorem agN:ag Tryz.prog ⟨41,8,KC,Mo,0⟩:=⟨fun _=>⟨afR,_,Tryz.func41,ajJ⟩,fun h=>by cases h⟩
abbrev aiz:FuncId:=42
def Kb:AC:=
(.seq (.reg [oP 4 (.alloc [.int .i64 0, .int .i64 0])] [0,1,4])
(.seq (.reg [mV 5 0,
mV 6 1,
oP 7 (.build [.int .i64 0, .int .i64 0] [(0,1,(.t 5)),(1,1,(.t 6))]),
oN (.store 2 (.t 4) (.t 7))] [4])
.ret))
abbrev MZ:RsT:=[(4,some (some 2))]
theorem aff:an Tryz.prog Tryz.f42 8 Kb MZ = true:=by kernel_rfl
theorem afq:af Tryz.prog aiz = true:=by kernel_rfl
theorem afX:ag Tryz.prog ⟨42,8,Kb,MZ,0⟩:=⟨fun _=>⟨afq,_,Tryz.func42,aff⟩,fun h=>by cases h⟩
abbrev agW:FuncId:=43
def Km:AC:=
(.seq (.reg [oP 4 (.alloc [.int .i64 0, .int .i64 0])] [0,1,4])
(.seq (.reg [mV 5 0,
mV 6 1,
oP 7 (.build [.int .i64 0, .int .i64 0] [(0,1,(.t 5)),(1,1,(.t 6))]),
oN (.store 2 (.t 4) (.t 7))] [4])
.ret))
abbrev Mp:RsT:=[(4,some (some 2))]
theorem ah8:an Tryz.prog Tryz.f43 8 Km Mp = true:=by kernel_rfl
theorem aiq:af Tryz.prog agW = true:=by kernel_rfl
theorem ajB:ag Tryz.prog ⟨43,8,Km,Mp,0⟩:=⟨fun _=>⟨aiq,_,Tryz.func43,ah8⟩,fun h=>by cases h⟩
abbrev ajx:FuncId:=44
def K9:AC:=
(.seq (.reg [oP 4 (.alloc [.int .i64 0, .int .i64 0])] [0,1,4])
(.seq (.reg [mV 5 0,
mV 6 1,
oP 7 (.build [.int .i64 0, .int .i64 0] [(0,1,(.t 5)),(1,1,(.t 6))]),
oN (.store 2 (.t 4) (.t 7))] [4])
.ret))
abbrev Mi:RsT:=[(4,some (some 2))]
theorem ahD:an Tryz.prog Tryz.f44 8 K9 Mi = true:=by kernel_rfl
theorem ahl:af Tryz.prog ajx = true:=by kernel_rfl
theorem agv:ag Tryz.prog ⟨44,8,K9,Mi,0⟩:=⟨fun _=>⟨ahl,_,Tryz.func44,ahD⟩,fun h=>by cases h⟩
abbrev afi:FuncId:=45
def LB:AC:=
(.seq (.reg [oP 2 (.pbox 36 (.t 0)),
oP 4 (.mv (.c .nilptr)),
oP 5 (.nilS 1 1),
oP 6 (.mv (cI 0))] [1,2,5])
(.seq (.seq (.reg [oP 12 (.load (some 36) (.t 2)),
mV 13 1,
oP 14 (.call (.f 10) [true,true] [(.t 12),(.t 13)]),
mV 11 14,
oP 15 (.extract (.t 11) 0),
oP 16 (.extract (.t 11) 1),
mV 4 15,
mV 6 16] [1,4,5,6])
(.seq (.reg [mV 17 6,
oP 18 (.bin .neq (.t 17) (cI 0))] [1,4,5,6,18])
(.cond (.t 18)
(.seq (.reg [mV 19 6,
oP 4 (.mv (.c .nilptr)),
oP 5 (.nilS 1 1),
mV 6 19] [4,5,6])
.ret)
.skip)))
(.seq (.seq (.reg [mV 20 1,
oP 21 (.len (.t 20)),
oP 22 (.mv (cI 0))] [4,5,20,21,22])
(.block 0
(.loop [4,5,20,21,22]
(.seq (.reg [oP 23 (.bin .lss (.t 22) (.t 21))] [4,5,20,21,22,23])
(.seq (.cond (.t 23)
.skip
(.exit 0))
(.seq (.block 1
(.seq (.reg [oP 24 (.ixS 1 (.t 20) (.t 22)),
oP 25 (.load none (.t 24)),
mV 8 25] [4,5,8,20,21,22])
(.seq (.reg [mV 27 4,
mV 28 8,
oP 29 (.call (.f 11) [false,false] [(.t 27),(.t 28)]),
mV 26 29,
oP 30 (.extract (.t 26) 0),
oP 31 (.extract (.t 26) 1),
oP 9 (.alloc [.int .i64 0, .slice 1 []]),
oN (.store 2 (.t 9) (.t 30)),
mV 10 31] [4,5,8,10,20,21,22])
(.seq (.reg [mV 32 10] [4,5,8,20,21,22,32])
(.cond (.t 32)
(.reg [mV 33 5,
mV 34 8,
oP 35 (.lit 0 1 1 [(0,(.t 34))]),
oP 36 (.append 1 16 (.t 33) (.t 35)),
mV 5 36] [4,5,20,21,22])
.skip)))))
(.reg [oP 37 (.bin .add (.t 22) (cI 1)),
mV 22 37] [4,5,20,21,22])))))))
(.seq (.reg [mV 38 4,
mV 39 5,
mV 4 38,
oP 5 (.mvd (.t 39)),
oP 6 (.mv (cI 0))] [4,5,6])
.ret))))
abbrev Ml:RsT:=[(4,none),(5,none),(6,none)]
theorem ajm:an Tryz.prog Tryz.f45 40 LB Ml = true:=by kernel_rfl
theorem ajE:af Tryz.prog afi = true:=by kernel_rfl
theorem agE:ag Tryz.prog ⟨45,40,LB,Ml,2⟩:=⟨fun _=>⟨ajE,_,Tryz.func45,ajm⟩,fun h=>by cases h⟩
abbrev XZ:FuncId:=46
theorem af3:af Tryz.prog XZ = true:=by kernel_rfl
abbrev Q3:FuncId:=47
theorem agc:af Tryz.prog Q3 = true:=by kernel_rfl
abbrev aft:FuncId:=48
def Mn:AC:=
(.seq (.reg [oP 4 (.mv (.c (.bool false)))] [0,1])
(.seq (.reg [mV 5 0,
mV 6 1,
oP 7 (.call (.f 78) [false,false] [(.t 5),(.t 6)]),
mV 4 7] [4])
.ret))
abbrev L5:RsT:=[(4,none)]
theorem ajW:an Tryz.prog Tryz.f48 8 Mn L5 = true:=by kernel_rfl
theorem ahF:af Tryz.prog aft = true:=by kernel_rfl
theorem ajQ:ag Tryz.prog ⟨48,8,Mn,L5,0⟩:=⟨fun _=>⟨ahF,_,Tryz.func48,ajW⟩,fun h=>by cases h⟩
abbrev ahd:FuncId:=49
def Ms:AC:=
(.seq (.reg [oP 2 (.alloc [.int .i64 0, .int .i64 0, .int .i64 0, .int .i64 0, .int .i64 0, .int .i64 0, .int .i64 0, .int .i64 0, .int .i64 0, .int .i64 0, .int .i64 0, .int .i64 0])] [0,2])
(.seq (.seq (.reg [mV 6 0,
oP 7 (.nilchk (.t 6)),
oP 8 (.fieldAddr none 46 (.t 7)),
oP 9 (.load none (.t 8)),
oP 10 (.len (.t 9)),
oP 11 (.mv (cI 0))] [0,2,9,10,11])
(.block 0
(.loop [0,2,9,10,11]
(.seq (.reg [oP 12 (.bin .lss (.t 11) (.t 10))] [0,2,9,10,11,12])
(.seq (.cond (.t 12)
.skip
(.exit 0))
(.seq (.block 1
(.seq (.reg [mV 13 11,
oP 14 (.ixS 7 (.t 9) (.t 11)),
oP 15 (.load (some 7) (.t 14)),
oP 4 (.alloc [.str ByteArray.empty, .int .i64 0, .int .i64 0, .int .i64 0, .slice 1 [], .int .i64 0, .int .i64 0]),
mV 3 13,
oN (.store 7 (.t 4) (.t 15))] [0,2,3,4,9,10,11])
(.frz 4 true (.seq (.reg [oP 16 (.fieldAddr none 1 (.t 4)),
oP 17 (.load none (.t 16)),
mV 5 17] [0,2,3,4,5,9,10,11])
(.seq (.seq (.reg [mV 18 0,
oP 19 (.nilchk (.t 18)),
oP 20 (.fieldAddr (some 10) 36 (.t 19)),
oP 21 (.fieldAddr none 7 (.t 20)),
oP 22 (.load none (.t 21)),
mV 23 3,
oP 24 (.call (.f 79) [true,false] [(.t 22),(.t 23)]),
oP 25 (.un .not (.t 24))] [0,2,4,5,9,10,11,25])
(.cond (.t 25)
(.reg [oP 5 (.mv (cI 0))] [0,2,4,5,9,10,11])
.skip))
(.seq (.dreg [mV 26 5,
oP 27 (.ixA 6 2 (some 2) (.t 2) (.t 26)),
oP 28 (.fieldAddr none 0 (.t 27)),
oP 29 (.load none (.t 28)),
oP 30 (.fieldAddr (some 2) 5 (.t 4)),
oP 31 (.fieldAddr none 0 (.t 30)),
oP 32 (.load none (.t 31)),
oP 33 (.bin .add (.t 29) (.t 32)),
oP 34 (.ixA 6 2 (some 2) (.t 2) (.t 26)),
oP 35 (.fieldAddr none 0 (.t 34)),
oN (.store 1 (.t 35) (.t 33))] [0,2,4,5,9,10,11] [[],[0],[0,1],[0,1,2],[],[4],[4,5],[0,1,2,3,4,5,6],[0,1,2,3,4,5,6,7],[0,1,2,3,4,5,6,7,8],[0,1,2,3,4,5,6,7,8,9]])
(.dreg [mV 36 5,
oP 37 (.ixA 6 2 (some 2) (.t 2) (.t 36)),
oP 38 (.fieldAddr none 1 (.t 37)),
oP 39 (.load none (.t 38)),
oP 40 (.fieldAddr (some 2) 5 (.t 4)),
oP 41 (.fieldAddr none 1 (.t 40)),
oP 42 (.load none (.t 41)),
oP 43 (.bin .add (.t 39) (.t 42)),
oP 44 (.ixA 6 2 (some 2) (.t 2) (.t 36)),
oP 45 (.fieldAddr none 1 (.t 44)),
oN (.store 1 (.t 45) (.t 43))] [0,2,9,10,11] [[],[0],[0,1],[0,1,2],[],[4],[4,5],[0,1,2,3,4,5,6],[0,1,2,3,4,5,6,7],[0,1,2,3,4,5,6,7,8],[0,1,2,3,4,5,6,7,8,9]])))))))
(.reg [oP 46 (.bin .add (.t 11) (cI 1)),
mV 11 46] [0,2,9,10,11])))))))
(.seq (.reg [oP 47 (.load (some 12) (.t 2)),
oN (.store 12 (.t 2) (.t 47))] [2])
.ret)))
abbrev KX:RsT:=[(2,some (some 12))]
theorem aiy:an Tryz.prog Tryz.f49 48 Ms KX = true:=by kernel_rfl
theorem aiK:af Tryz.prog ahd = true:=by kernel_rfl
theorem akh:ag Tryz.prog ⟨49,48,Ms,KX,0⟩:=⟨fun _=>⟨aiK,_,Tryz.func49,aiy⟩,fun h=>by cases h⟩
abbrev Hk:FuncId:=50
def Hm:AC:=
(.seq (.reg [oP 2 (.mv (.c (.slice 2 [])))] [0])
(.seq (.seq (.reg [mV 3 0,
oP 4 (.snil false (.t 3))] [0,4])
(.cond (.t 4)
(.seq (.reg [oP 2 (.nilS 3 2)] [2])
.ret)
.skip))
(.seq (.reg [oP 5 (.lit 1 2 0 []),
mV 6 0,
oP 7 (.append 2 16 (.t 5) (.t 6)),
mV 2 7] [2])
.ret)))
abbrev KA:RsT:=[(2,none)]
theorem afZ:SpF 8 Hk Hm KA:=SpI Tryz.func50 (by kernel_rfl)
theorem Pm:af Tryz.prog Hk = true:=by kernel_rfl
theorem akc:ag Tryz.prog ⟨50,8,Hm,KA,0⟩:=⟨fun _=>⟨Pm,_,Tryz.func50,by kernel_rfl⟩,fun h=>by cases h⟩
abbrev aaY:FuncId:=51
def J6:AC:=
(.seq (.reg [oP 1 (.pbox 2 (.t 0)),
oP 2 (.mv (cI 0)),
oP 3 (.mv (cI 0)),
oP 4 (.mv (cI 0))] [1])
(.seq (.reg [oP 6 (.load (some 2) (.t 1)),
oP 7 (.call (.f 80) [true,false] [(.t 6),(cI 0)]),
mV 5 7,
oP 8 (.extract (.t 5) 0),
oP 9 (.extract (.t 5) 1),
oP 10 (.extract (.t 5) 2),
oP 11 (.extract (.t 5) 3),
mV 2 9,
mV 3 10,
mV 4 11] [2,3,4])
(.seq (.reg [mV 12 2,
mV 13 3,
mV 14 4,
mV 2 12,
mV 3 13,
mV 4 14] [2,3,4])
.ret)))
abbrev JE:RsT:=[(2,none),(3,none),(4,none)]
theorem ajo:an Tryz.prog Tryz.f51 15 J6 JE = true:=by kernel_rfl
theorem aim:af Tryz.prog aaY = true:=by kernel_rfl
theorem ai5:ag Tryz.prog ⟨51,15,J6,JE,0⟩:=⟨fun _=>⟨aim,_,Tryz.func51,ajo⟩,fun h=>by cases h⟩
abbrev ZX:FuncId:=52
def KI:AC:=
(.seq (.reg [oP 2 (.pbox 6 (.t 0)),
oP 3 (.pbox 3 (.t 1)),
oP 4 (.mv (cI 0)),
oP 5 (.mv (cI 0)),
oP 6 (.mv (cI 0))] [2,3])
(.seq (.seq (.dreg [oP 9 (.fieldAddr (some 2) 0 (.t 2)),
oP 10 (.load (some 2) (.t 9)),
oP 11 (.build [.int .i64 0, .int .i64 0, .int .i64 0, .int .i64 0] [(0,2,(.t 10)),(2,1,(cI 1)),(3,1,(cI 200))]),
oP 12 (.fieldAddr (some 2) 2 (.t 2)),
oP 13 (.load (some 2) (.t 12)),
oP 14 (.build [.int .i64 0, .int .i64 0, .int .i64 0, .int .i64 0] [(0,2,(.t 13)),(2,1,(cI (-2000000))),(3,1,(cI 2000000))]),
oP 15 (.fieldAddr none 4 (.t 2)),
oP 16 (.load none (.t 15)),
oP 17 (.call (.f 82) [false] [(.t 16)]),
oP 18 (.build [.int .i64 0, .int .i64 0, .int .i64 0, .int .i64 0] [(0,2,(.t 17)),(2,1,(cI 0)),(3,1,(cI 200))]),
oP 19 (.lit 0 4 3 [(0,(.t 11)),(1,(.t 14)),(2,(.t 18))]),
oP 20 (.call (.f 81) [true] [(.t 19)]),
mV 6 20] [2,3,6] [[],[0],[0,1],[],[3],[3,4],[],[6],[6,7],[6,7,8],[0,1,2,3,4,5,6,7,8,9],[0,1,2,3,4,5,6,7,8,9,10],[0,1,2,3,4,5,6,7,8,9,10,11]])
(.seq (.reg [mV 21 6,
oP 22 (.bin .neq (.t 21) (cI 0))] [2,3,6,22])
(.cond (.t 22)
(.seq (.reg [mV 23 6,
oP 4 (.mv (cI 1)),
oP 5 (.mv (cI 0)),
mV 6 23] [4,5,6])
.ret)
.skip)))
(.seq (.seq (.reg [oP 24 (.fieldAddr none 5 (.t 2)),
oP 25 (.load none (.t 24)),
oP 26 (.len (.t 25)),
oP 27 (.bin .lss (.t 26) (cI 1)),
mV 28 27,
gF 29 28 (.fieldAddr none 5 (.t 2)),
gF 30 28 (.load none (.t 29)),
gF 31 28 (.len (.t 30)),
gF 32 28 (.bin .gtr (.t 31) (cI 12)),
oP 33 (.pick (.t 28) (.c (.bool true)) (.t 32))] [2,3,33])
(.cond (.t 33)
(.seq (.reg [oP 4 (.mv (cI 2)),
oP 5 (.mv (cI 0)),
oP 6 (.mv (cI 3))] [4,5,6])
.ret)
.skip))
(.seq (.seq (.reg [oP 34 (.fieldAddr none 5 (.t 2)),
oP 35 (.load none (.t 34)),
oP 36 (.len (.t 35)),
oP 37 (.mv (cI 0))] [2,3,35,36,37])
(.block 0
(.loop [2,3,35,36,37]
(.seq (.reg [oP 38 (.bin .lss (.t 37) (.t 36))] [2,3,35,36,37,38])
(.seq (.cond (.t 38)
.skip
(.exit 0))
(.seq (.block 1
(.seq (.reg [mV 39 37,
oP 40 (.ixS 5 (.t 35) (.t 37)),
oP 41 (.load (some 5) (.t 40)),
oP 8 (.alloc [.int .i64 0, .int .i64 0, .int .i64 0, .int .i64 0, .int .i64 0]),
mV 7 39,
oN (.store 5 (.t 8) (.t 41))] [2,3,7,8,35,36,37])
(.frz 8 true (.seq (.dreg [oP 42 (.fieldAddr none 0 (.t 8)),
oP 43 (.load none (.t 42)),
oP 44 (.call (.f 82) [false] [(.t 43)]),
oP 45 (.build [.int .i64 0, .int .i64 0, .int .i64 0, .int .i64 0] [(0,2,(.t 44)),(2,1,(cI 0)),(3,1,(cI 40000))]),
oP 46 (.fieldAddr (some 2) 1 (.t 8)),
oP 47 (.load (some 2) (.t 46)),
oP 48 (.build [.int .i64 0, .int .i64 0, .int .i64 0, .int .i64 0] [(0,2,(.t 47)),(2,1,(cI 0)),(3,1,(cI 1500))]),
oP 49 (.fieldAddr (some 2) 3 (.t 8)),
oP 50 (.load (some 2) (.t 49)),
oP 51 (.build [.int .i64 0, .int .i64 0, .int .i64 0, .int .i64 0] [(0,2,(.t 50)),(2,1,(cI (-200))),(3,1,(cI 200))]),
oP 52 (.lit 0 4 3 [(0,(.t 45)),(1,(.t 48)),(2,(.t 51))]),
oP 53 (.call (.f 81) [true] [(.t 52)]),
mV 6 53] [2,3,6,7,8,35,36,37] [[],[0],[0,1],[0,1,2],[],[4],[4,5],[],[7],[7,8],[0,1,2,3,4,5,6,7,8,9],[0,1,2,3,4,5,6,7,8,9,10],[0,1,2,3,4,5,6,7,8,9,10,11]])
(.seq (.seq (.dreg [mV 54 6,
oP 55 (.bin .eql (.t 54) (cI 0)),
mV 56 55,
gT 57 56 (.mv (.t 7)),
gT 58 56 (.bin .gtr (.t 57) (cI 0)),
oP 59 (.pick (.t 56) (.t 58) (.c (.bool false))),
mV 60 59,
gT 61 60 (.fieldAddr none 0 (.t 8)),
gT 62 60 (.load none (.t 61)),
gT 63 60 (.fieldAddr none 5 (.t 2)),
gT 64 60 (.load none (.t 63)),
gT 65 60 (.mv (.t 7)),
gT 66 60 (.bin .sub (.t 65) (cI 1)),
gT 67 60 (.ixS 5 (.t 64) (.t 66)),
gT 68 60 (.fieldAddr none 0 (.t 67)),
gT 69 60 (.load none (.t 68)),
gT 70 60 (.bin .lss (.t 62) (.t 69)),
oP 71 (.pick (.t 60) (.t 70) (.c (.bool false)))] [2,3,6,7,35,36,37,71] [[],[0],[0,1],[0,1,2],[0,1,2,3],[0,1,2,3,4],[0,1,2,3,4,5],[0,1,2,3,4,5,6],[0,1,2,3,4,5,6,7],[0,1,2,3,4,5,6],[0,1,2,3,4,5,6,9],[0,1,2,3,4,5,6],[0,1,2,3,4,5,6,11],[0,1,2,3,4,5,6,9,10,11,12],[0,1,2,3,4,5,6,9,10,11,12,13],[0,1,2,3,4,5,6,9,10,11,12,13,14],[0,1,2,3,4,5,6,7,8,9,10,11,12,13,14,15],[0,1,2,3,4,5,6,7,8,9,10,11,12,13,14,15,16]])
(.cond (.t 71)
(.reg [oP 6 (.mv (cI 2))] [2,3,6,7,35,36,37])
.skip))
(.seq (.reg [mV 72 6,
oP 73 (.bin .neq (.t 72) (cI 0))] [2,3,6,7,35,36,37,73])
(.cond (.t 73)
(.seq (.reg [mV 74 7,
mV 75 6,
oP 4 (.mv (cI 2)),
mV 5 74,
mV 6 75] [4,5,6])
.ret)
.skip)))))))
(.reg [oP 76 (.bin .add (.t 37) (cI 1)),
mV 37 76] [2,3,35,36,37])))))))
(.seq (.seq (.dreg [oP 77 (.fieldAddr (some 2) 0 (.t 3)),
oP 78 (.load (some 2) (.t 77)),
oP 79 (.build [.int .i64 0, .int .i64 0, .int .i64 0, .int .i64 0] [(0,2,(.t 78)),(2,1,(cI 0)),(3,1,(cI 1500))]),
oP 80 (.fieldAddr none 2 (.t 3)),
oP 81 (.load none (.t 80)),
oP 82 (.call (.f 82) [false] [(.t 81)]),
oP 83 (.build [.int .i64 0, .int .i64 0, .int .i64 0, .int .i64 0] [(0,2,(.t 82)),(2,1,(cI 0)),(3,1,(cI 50))]),
oP 84 (.lit 0 4 2 [(0,(.t 79)),(1,(.t 83))]),
oP 85 (.call (.f 81) [true] [(.t 84)]),
mV 6 85] [6] [[],[0],[0,1],[],[3],[3,4],[3,4,5],[0,1,2,3,4,5,6],[0,1,2,3,4,5,6,7],[0,1,2,3,4,5,6,7,8]])
(.seq (.reg [mV 86 6,
oP 87 (.bin .neq (.t 86) (cI 0))] [6,87])
(.cond (.t 87)
(.seq (.reg [mV 88 6,
oP 4 (.mv (cI 3)),
oP 5 (.mv (cI 0)),
mV 6 88] [4,5,6])
.ret)
.skip)))
(.seq (.reg [oP 4 (.mv (cI 0)),
oP 5 (.mv (cI 0)),
oP 6 (.mv (cI 0))] [4,5,6])
.ret))))))
abbrev K5:RsT:=[(4,none),(5,none),(6,none)]
theorem ajD:an Tryz.prog Tryz.f52 89 KI K5 = true:=by kernel_rfl
theorem aiO:af Tryz.prog ZX = true:=by kernel_rfl
theorem ai1:ag Tryz.prog ⟨52,89,KI,K5,0⟩:=⟨fun _=>⟨aiO,_,Tryz.func52,ajD⟩,fun h=>by cases h⟩
abbrev Q8:FuncId:=53
def K6:AC:=
(.seq (.reg [oP 1 (.pbox 9 (.t 0)),
oP 2 (.mv (cI 0)),
oP 3 (.mv (cI 0)),
oP 4 (.mv (cI 0))] [1])
(.seq (.block 0
(.seq (.reg [oP 11 (.fieldAddr (some 2) 0 (.t 1)),
oP 12 (.fieldAddr none 0 (.t 11)),
oP 13 (.load none (.t 12)),
oP 14 (.fieldAddr (some 2) 0 (.t 1)),
oP 15 (.fieldAddr none 1 (.t 14)),
oP 16 (.load none (.t 15)),
oP 17 (.fieldAddr none 6 (.t 1)),
oP 18 (.load none (.t 17)),
oP 19 (.lit 0 1 3 [(0,(.t 13)),(1,(.t 16)),(2,(.t 18))]),
oP 20 (.call (.f 83) [false,false,true] [(cI 0),(cI 200),(.t 19)]),
mV 21 20,
gF 22 21 (.fieldAddr (some 2) 2 (.t 1)),
gF 23 21 (.fieldAddr none 0 (.t 22)),
gF 24 21 (.load none (.t 23)),
gF 25 21 (.fieldAddr (some 2) 2 (.t 1)),
gF 26 21 (.fieldAddr none 1 (.t 25)),
gF 27 21 (.load none (.t 26)),
gF 28 21 (.fieldAddr (some 2) 4 (.t 1)),
gF 29 21 (.fieldAddr none 0 (.t 28)),
gF 30 21 (.load none (.t 29)),
gF 31 21 (.fieldAddr (some 2) 4 (.t 1)),
gF 32 21 (.fieldAddr none 1 (.t 31)),
gF 33 21 (.load none (.t 32)),
gF 34 21 (.lit 0 1 4 [(0,(.t 24)),(1,(.t 27)),(2,(.t 30)),(3,(.t 33))]),
gF 35 21 (.call (.f 83) [false,false,true] [(cI (-20)),(cI 20),(.t 34)]),
oP 36 (.pick (.t 21) (.c (.bool true)) (.t 35)),
mV 10 36] [1,10])
(.cond (.t 10)
(.seq (.reg [oP 2 (.mv (cI 1)),
oP 3 (.mv (cI 0)),
oP 4 (.mv (cI 7))] [2,3,4])
.ret)
(.seq (.reg [oP 38 (.fieldAddr (some 2) 0 (.t 1)),
oP 39 (.fieldAddr none 0 (.t 38)),
oP 40 (.load none (.t 39)),
oP 41 (.fieldAddr (some 2) 0 (.t 1)),
oP 42 (.fieldAddr none 1 (.t 41)),
oP 43 (.load none (.t 42)),
oP 44 (.bin .gtr (.t 40) (.t 43)),
mV 45 44,
gF 46 45 (.fieldAddr (some 2) 2 (.t 1)),
gF 47 45 (.fieldAddr none 0 (.t 46)),
gF 48 45 (.load none (.t 47)),
gF 49 45 (.fieldAddr (some 2) 2 (.t 1)),
gF 50 45 (.fieldAddr none 1 (.t 49)),
gF 51 45 (.load none (.t 50)),
gF 52 45 (.bin .gtr (.t 48) (.t 51)),
oP 53 (.pick (.t 45) (.c (.bool true)) (.t 52)),
mV 54 53,
gF 55 54 (.fieldAddr (some 2) 4 (.t 1)),
gF 56 54 (.fieldAddr none 0 (.t 55)),
gF 57 54 (.load none (.t 56)),
gF 58 54 (.fieldAddr (some 2) 4 (.t 1)),
gF 59 54 (.fieldAddr none 1 (.t 58)),
gF 60 54 (.load none (.t 59)),
gF 61 54 (.bin .gtr (.t 57) (.t 60)),
oP 62 (.pick (.t 54) (.c (.bool true)) (.t 61)),
mV 37 62] [1,37])
(.cond (.t 37)
(.seq (.reg [oP 2 (.mv (cI 1)),
oP 3 (.mv (cI 0)),
oP 4 (.mv (cI 2))] [2,3,4])
.ret)
(.seq (.reg [oP 64 (.fieldAddr none 7 (.t 1)),
oP 65 (.load none (.t 64)),
oP 66 (.len (.t 65)),
oP 67 (.bin .gtr (.t 66) (cI 4)),
mV 63 67] [1,63])
(.cond (.t 63)
(.seq (.reg [oP 2 (.mv (cI 2)),
oP 3 (.mv (cI 0)),
oP 4 (.mv (cI 3))] [2,3,4])
.ret)
.skip)))))))
(.seq (.reg [oP 5 (.mv (cI (-1)))] [1,5])
(.seq (.seq (.reg [oP 68 (.fieldAddr none 7 (.t 1)),
oP 69 (.load none (.t 68)),
oP 70 (.len (.t 69)),
oP 71 (.mv (cI 0))] [1,5,69,70,71])
(.block 1
(.loop [1,5,69,70,71]
(.seq (.reg [oP 72 (.bin .lss (.t 71) (.t 70))] [1,5,69,70,71,72])
(.seq (.cond (.t 72)
.skip
(.exit 1))
(.seq (.block 2
(.seq (.reg [mV 73 71,
oP 74 (.ixS 2 (.t 69) (.t 71)),
oP 75 (.load (some 2) (.t 74)),
oP 7 (.alloc [.int .i64 0, .int .i64 0]),
mV 6 73,
oN (.store 2 (.t 7) (.t 75))] [1,5,6,7,69,70,71])
(.frz 7 true (.seq (.block 3
(.seq (.reg [oP 77 (.fieldAddr none 0 (.t 7)),
oP 78 (.load none (.t 77)),
oP 79 (.fieldAddr none 1 (.t 7)),
oP 80 (.load none (.t 79)),
oP 81 (.lit 0 1 2 [(0,(.t 78)),(1,(.t 80))]),
oP 82 (.call (.f 83) [false,false,true] [(cI 0),(cI 60),(.t 81)]),
mV 76 82] [1,5,6,7,69,70,71,76])
(.cond (.t 76)
(.seq (.reg [mV 83 6,
oP 2 (.mv (cI 2)),
mV 3 83,
oP 4 (.mv (cI 7))] [2,3,4])
.ret)
(.seq (.reg [oP 85 (.fieldAddr none 0 (.t 7)),
oP 86 (.load none (.t 85)),
oP 87 (.fieldAddr none 1 (.t 7)),
oP 88 (.load none (.t 87)),
oP 89 (.bin .gtr (.t 86) (.t 88)),
mV 90 89,
gF 91 90 (.fieldAddr none 0 (.t 7)),
gF 92 90 (.load none (.t 91)),
gF 93 90 (.mv (.t 5)),
gF 94 90 (.bin .leq (.t 92) (.t 93)),
oP 95 (.pick (.t 90) (.c (.bool true)) (.t 94)),
mV 84 95] [1,6,7,69,70,71,84])
(.cond (.t 84)
(.seq (.reg [mV 96 6,
oP 2 (.mv (cI 2)),
mV 3 96,
oP 4 (.mv (cI 2))] [2,3,4])
.ret)
.skip)))))
(.reg [oP 97 (.fieldAddr none 1 (.t 7)),
oP 98 (.load none (.t 97)),
mV 5 98] [1,5,69,70,71])))))
(.reg [oP 99 (.bin .add (.t 71) (cI 1)),
mV 71 99] [1,5,69,70,71])))))))
(.seq (.seq (.reg [oP 100 (.fieldAddr none 8 (.t 1)),
oP 101 (.load none (.t 100)),
oP 102 (.len (.t 101)),
oP 103 (.lit 0 1 1 [(0,(.t 102))]),
oP 104 (.call (.f 83) [false,false,true] [(cI 1),(cI 3),(.t 103)])] [1,104])
(.cond (.t 104)
(.seq (.reg [oP 2 (.mv (cI 3)),
oP 3 (.mv (cI 0)),
oP 4 (.mv (cI 3))] [2,3,4])
.ret)
.skip))
(.seq (.seq (.reg [oP 105 (.fieldAddr none 8 (.t 1)),
oP 106 (.load none (.t 105)),
oP 107 (.len (.t 106)),
oP 108 (.mv (cI 0))] [1,106,107,108])
(.block 4
(.loop [1,106,107,108]
(.seq (.reg [oP 109 (.bin .lss (.t 108) (.t 107))] [1,106,107,108,109])
(.seq (.cond (.t 109)
.skip
(.exit 4))
(.seq (.block 5
(.seq (.reg [mV 110 108,
oP 111 (.ixS 2 (.t 106) (.t 108)),
oP 112 (.load (some 2) (.t 111)),
oP 9 (.alloc [.str ByteArray.empty, .int .i64 0]),
mV 8 110,
oN (.store 2 (.t 9) (.t 112))] [1,8,9,106,107,108])
(.frz 9 true (.seq (.reg [oP 113 (.fieldAddr none 8 (.t 1)),
oP 114 (.load none (.t 113)),
mV 115 8,
oP 116 (.bin .add (.t 115) (cI 1)),
oP 117 (.subq 2 (.t 114) none (some (.t 116))),
oP 118 (.call (.f 84) [true,false] [(.t 117),(.f 85)]),
mV 4 118] [1,4,8,9,106,107,108])
(.seq (.seq (.reg [mV 119 4,
oP 120 (.bin .eql (.t 119) (cI 0)),
mV 121 120,
gT 122 121 (.fieldAddr none 1 (.t 9)),
gT 123 121 (.load none (.t 122)),
gT 124 121 (.lit 0 1 1 [(0,(.t 123))]),
gT 125 121 (.call (.f 83) [false,false,true] [(cI 0),(cI 50),(.t 124)]),
oP 126 (.pick (.t 121) (.t 125) (.c (.bool false)))] [1,4,8,106,107,108,126])
(.cond (.t 126)
(.reg [oP 4 (.mv (cI 7))] [1,4,8,106,107,108])
.skip))
(.seq (.reg [mV 127 4,
oP 128 (.bin .neq (.t 127) (cI 0))] [1,4,8,106,107,108,128])
(.cond (.t 128)
(.seq (.reg [mV 129 8,
mV 130 4,
oP 2 (.mv (cI 3)),
mV 3 129,
mV 4 130] [2,3,4])
.ret)
.skip)))))))
(.reg [oP 131 (.bin .add (.t 108) (cI 1)),
mV 108 131] [1,106,107,108])))))))
(.seq (.reg [oP 2 (.mv (cI 0)),
oP 3 (.mv (cI 0)),
oP 4 (.mv (cI 0))] [2,3,4])
.ret)))))))
abbrev Lq:RsT:=[(2,none),(3,none),(4,none)]
theorem ahO:an Tryz.prog Tryz.f53 132 K6 Lq = true:=by kernel_rfl
theorem afo:af Tryz.prog Q8 = true:=by kernel_rfl
theorem aiJ:ag Tryz.prog ⟨53,132,K6,Lq,0⟩:=⟨fun _=>⟨afo,_,Tryz.func53,ahO⟩,fun h=>by cases h⟩
abbrev MW:FuncId:=54
def Lj:AC:=
(.seq (.reg [oP 1 (.pbox 11 (.t 0)),
oP 2 (.alloc [.int .i64 0]),
oP 3 (.alloc [.int .i64 0]),
oP 4 (.alloc [.int .i64 0])] [1,2,3,4])
(.seq (.dfr 12 86 [(.t 2),(.t 3),(.t 4)] [1,2,3,4])
(.seq (.reg [oP 14 (.fieldAddr (some 1) 0 (.t 1)),
oP 15 (.load (some 1) (.t 14)),
oP 16 (.build [.slice 7 [], .slice 10 []] [(0,1,(.t 15))]),
oP 17 (.call (.f 51) [true] [(.t 16)]),
mV 13 17,
oP 18 (.extract (.t 13) 0),
oP 19 (.extract (.t 13) 1),
oP 20 (.extract (.t 13) 2),
oN (.store 1 (.t 3) (.t 19)),
oN (.store 1 (.t 4) (.t 20))] [1,2,3,4])
(.seq (.reg [oP 21 (.load none (.t 3)),
oP 22 (.load none (.t 4)),
oP 23 (.call (.f 87) [false,false,false] [(cI 1),(.t 21),(.t 22)])] [1,2,3,4])
(.seq (.reg [oP 25 (.fieldAddr (some 3) 1 (.t 1)),
oP 26 (.load (some 3) (.t 25)),
oP 27 (.call (.f 88) [true] [(.t 26)]),
mV 24 27,
oP 28 (.extract (.t 24) 0),
oP 29 (.extract (.t 24) 1),
oP 30 (.extract (.t 24) 2),
oN (.store 1 (.t 4) (.t 30))] [1,2,3,4])
(.seq (.reg [oP 31 (.load none (.t 4)),
oP 32 (.call (.f 87) [false,false,false] [(cI 2),(cI 0),(.t 31)])] [1,2,3,4])
(.seq (.reg [oP 33 (.fieldAddr (some 1) 0 (.t 1)),
oP 34 (.fieldAddr none 0 (.t 33)),
oP 35 (.load none (.t 34)),
oP 36 (.len (.t 35)),
mV 5 36] [1,2,3,4,5])
(.seq (.seq (.reg [oP 37 (.fieldAddr (some 3) 1 (.t 1)),
oP 38 (.fieldAddr none 0 (.t 37)),
oP 39 (.load none (.t 38)),
oP 40 (.len (.t 39)),
mV 41 5,
oP 42 (.bin .neq (.t 40) (.t 41)),
mV 43 42,
gF 44 43 (.mv (.t 5)),
gF 45 43 (.bin .gtr (.t 44) (cI 7)),
oP 46 (.pick (.t 43) (.c (.bool true)) (.t 45))] [1,2,3,4,5,46])
(.cond (.t 46)
(.reg [oP 47 (.call (.f 87) [false,false,false] [(cI 2),(cI 0),(cI 3)])] [1,2,3,4,5])
.skip))
(.seq (.seq (.reg [oP 48 (.fieldAddr (some 1) 0 (.t 1)),
oP 49 (.fieldAddr none 0 (.t 48)),
oP 50 (.load none (.t 49)),
oP 51 (.len (.t 50)),
oP 52 (.mv (cI 0))] [1,2,3,4,5,50,51,52])
(.block 0
(.loop [1,2,3,4,5,50,51,52]
(.seq (.reg [oP 53 (.bin .lss (.t 52) (.t 51))] [1,2,3,4,5,50,51,52,53])
(.seq (.cond (.t 53)
.skip
(.exit 0))
(.seq (.block 1
(.seq (.reg [mV 54 52,
oP 55 (.ixS 7 (.t 50) (.t 52)),
oP 56 (.load (some 7) (.t 55)),
oP 7 (.alloc [.str ByteArray.empty, .int .i64 0, .int .i64 0, .int .i64 0, .slice 1 [], .int .i64 0, .int .i64 0]),
mV 6 54,
oN (.store 7 (.t 7) (.t 56))] [1,2,3,4,5,6,7,50,51,52])
(.frz 7 true (.seq (.dreg [oP 57 (.fieldAddr (some 3) 1 (.t 1)),
oP 58 (.fieldAddr none 0 (.t 57)),
oP 59 (.load none (.t 58)),
mV 60 6,
oP 61 (.ixS 7 (.t 59) (.t 60)),
oP 62 (.fieldAddr none 0 (.t 61)),
oP 63 (.load none (.t 62)),
oP 64 (.fieldAddr none 0 (.t 7)),
oP 65 (.load none (.t 64)),
oP 66 (.bin .neq (.t 63) (.t 65))] [1,2,3,4,5,6,50,51,52,66] [[],[0],[0,1],[],[0,1,2,3],[0,1,2,3,4],[0,1,2,3,4,5],[],[7],[0,1,2,3,4,5,6,7,8]])
(.cond (.t 66)
(.reg [mV 67 6,
oP 68 (.call (.f 87) [false,false,false] [(cI 2),(.t 67),(cI 4)])] [1,2,3,4,5,50,51,52])
.skip)))))
(.reg [oP 69 (.bin .add (.t 52) (cI 1)),
mV 52 69] [1,2,3,4,5,50,51,52])))))))
(.seq (.reg [oP 71 (.fieldAddr (some 3) 1 (.t 1)),
oP 72 (.load (some 3) (.t 71)),
oP 73 (.fieldAddr (some 2) 4 (.t 1)),
oP 74 (.load (some 2) (.t 73)),
oP 75 (.call (.f 89) [true,false] [(.t 72),(.t 74)]),
mV 70 75,
oP 76 (.extract (.t 70) 0),
oP 77 (.extract (.t 70) 1),
oP 78 (.extract (.t 70) 2),
oN (.store 1 (.t 4) (.t 78))] [1,2,3,4,5])
(.seq (.reg [oP 79 (.load none (.t 4)),
oP 80 (.call (.f 87) [false,false,false] [(cI 3),(cI 0),(.t 79)])] [1,2,3,4,5])
(.seq (.reg [oP 82 (.fieldAddr (some 2) 6 (.t 1)),
oP 83 (.load (some 2) (.t 82)),
oP 84 (.fieldAddr none 8 (.t 1)),
oP 85 (.load none (.t 84)),
oP 86 (.fieldAddr none 9 (.t 1)),
oP 87 (.load none (.t 86)),
oP 88 (.call (.f 90) [true,true,true] [(.t 83),(.t 85),(.t 87)]),
mV 81 88,
oP 89 (.extract (.t 81) 0),
oP 90 (.extract (.t 81) 1),
oN (.store 1 (.t 4) (.t 90))] [1,2,3,4,5])
(.seq (.reg [oP 91 (.load none (.t 4)),
oP 92 (.call (.f 87) [false,false,false] [(cI 4),(cI 0),(.t 91)])] [1,2,3,4,5])
(.seq (.seq (.reg [oP 93 (.fieldAddr none 10 (.t 1)),
oP 94 (.load none (.t 93)),
oP 95 (.len (.t 94)),
mV 96 5,
oP 97 (.bin .neq (.t 95) (.t 96))] [1,2,3,4,97])
(.cond (.t 97)
(.reg [oP 98 (.call (.f 87) [false,false,false] [(cI 5),(cI 0),(cI 3)])] [1,2,3,4])
.skip))
(.seq (.seq (.reg [oP 99 (.fieldAddr none 10 (.t 1)),
oP 100 (.load none (.t 99)),
oP 101 (.len (.t 100)),
oP 102 (.mv (cI 0))] [1,2,3,4,100,101,102])
(.block 2
(.loop [1,2,3,4,100,101,102]
(.seq (.reg [oP 103 (.bin .lss (.t 102) (.t 101))] [1,2,3,4,100,101,102,103])
(.seq (.cond (.t 103)
.skip
(.exit 2))
(.seq (.block 3
(.seq (.reg [mV 104 102,
oP 105 (.ixS 1 (.t 100) (.t 102)),
oP 106 (.load none (.t 105)),
mV 8 104,
mV 9 106] [1,2,3,4,8,9,100,101,102])
(.seq (.reg [mV 107 9,
oP 108 (.len (.t 107)),
oP 109 (.mv (cI 0))] [1,2,3,4,8,9,100,101,102,107,108,109])
(.block 4
(.loop [1,2,3,4,8,9,100,101,102,107,108,109]
(.seq (.reg [oP 110 (.bin .lss (.t 109) (.t 108))] [1,2,3,4,8,9,100,101,102,107,108,109,110])
(.seq (.cond (.t 110)
.skip
(.exit 4))
(.seq (.block 5
(.seq (.reg [mV 111 109,
oP 112 (.ixS 1 (.t 107) (.t 109)),
oP 113 (.load none (.t 112)),
mV 10 111,
mV 11 113] [1,2,3,4,8,9,10,11,100,101,102,107,108,109])
(.block 6
(.seq (.reg [oP 115 (.fieldAddr (some 2) 6 (.t 1)),
oP 116 (.fieldAddr none 0 (.t 115)),
oP 117 (.load none (.t 116)),
oP 118 (.len (.t 117)),
mV 119 11,
oP 120 (.lit 0 1 1 [(0,(.t 119))]),
oP 121 (.call (.f 91) [false,true] [(.t 118),(.t 120)]),
mV 114 121] [1,2,3,4,8,9,10,11,100,101,102,107,108,109,114])
(.cond (.t 114)
(.reg [mV 122 8,
oP 123 (.call (.f 87) [false,false,false] [(cI 5),(.t 122),(cI 4)])] [1,2,3,4,8,9,100,101,102,107,108,109])
(.seq (.reg [mV 125 10,
oP 126 (.bin .gtr (.t 125) (cI 0)),
mV 127 126,
gT 128 127 (.mv (.t 11)),
gT 129 127 (.mv (.t 9)),
gT 130 127 (.mv (.t 10)),
gT 131 127 (.bin .sub (.t 130) (cI 1)),
gT 132 127 (.ixS 1 (.t 129) (.t 131)),
gT 133 127 (.load none (.t 132)),
gT 134 127 (.bin .leq (.t 128) (.t 133)),
oP 135 (.pick (.t 127) (.t 134) (.c (.bool false))),
mV 124 135] [1,2,3,4,8,9,100,101,102,107,108,109,124])
(.cond (.t 124)
(.reg [mV 136 8,
oP 137 (.call (.f 87) [false,false,false] [(cI 5),(.t 136),(cI 2)])] [1,2,3,4,8,9,100,101,102,107,108,109])
.skip)))))))
(.reg [oP 138 (.bin .add (.t 109) (cI 1)),
mV 109 138] [1,2,3,4,8,9,100,101,102,107,108,109])))))))))
(.reg [oP 139 (.bin .add (.t 102) (cI 1)),
mV 102 139] [1,2,3,4,100,101,102])))))))
(.seq (.reg [oN (.store 1 (.t 2) (cI 0)),
oN (.store 1 (.t 3) (cI 0)),
oN (.store 1 (.t 4) (cI 0))] [2,3,4])
.ret))))))))))))))))
abbrev LZ:RsT:=[(2,some none),(3,some none),(4,some none)]
theorem ahT:an Tryz.prog Tryz.f54 140 Lj LZ = true:=by kernel_rfl
theorem aid:af Tryz.prog MW = true:=by kernel_rfl
theorem ain:ag Tryz.prog ⟨54,140,Lj,LZ,0⟩:=⟨fun _=>⟨aid,_,Tryz.func54,ahT⟩,fun h=>by cases h⟩
abbrev ajT:FuncId:=55
def LJ:AC:=
(.seq (.reg [oP 2 (.alloc [.slice 7 [], .slice 7 [], .int .i64 0, .int .i64 0, .int .i64 0, .int .i64 0, .slice 2 [], .slice 3 [], .slice 1 [], .slice 2 [], .slice 1 []])] [0,2])
(.seq (.dreg [mV 3 0,
oP 4 (.nilchk (.t 3)),
oP 5 (.fieldAddr none 46 (.t 4)),
oP 6 (.load none (.t 5)),
oP 7 (.build [.slice 7 []] [(0,1,(.t 6))]),
mV 8 0,
oP 9 (.nilchk (.t 8)),
oP 10 (.fieldAddr (some 36) 0 (.t 9)),
oP 11 (.fieldAddr (some 3) 22 (.t 10)),
oP 12 (.load (some 3) (.t 11)),
mV 13 0,
oP 14 (.nilchk (.t 13)),
oP 15 (.fieldAddr (some 36) 0 (.t 14)),
oP 16 (.fieldAddr (some 2) 25 (.t 15)),
oP 17 (.load (some 2) (.t 16)),
mV 18 0,
oP 19 (.nilchk (.t 18)),
oP 20 (.fieldAddr (some 36) 0 (.t 19)),
oP 21 (.fieldAddr (some 2) 20 (.t 20)),
oP 22 (.load (some 2) (.t 21)),
mV 23 0,
oP 24 (.nilchk (.t 23)),
oP 25 (.fieldAddr (some 10) 36 (.t 24)),
oP 26 (.fieldAddr none 4 (.t 25)),
oP 27 (.load none (.t 26)),
mV 28 0,
oP 29 (.nilchk (.t 28)),
oP 30 (.fieldAddr (some 10) 36 (.t 29)),
oP 31 (.fieldAddr none 5 (.t 30)),
oP 32 (.load none (.t 31)),
mV 33 0,
oP 34 (.nilchk (.t 33)),
oP 35 (.fieldAddr (some 36) 0 (.t 34)),
oP 36 (.fieldAddr none 27 (.t 35)),
oP 37 (.load none (.t 36)),
oP 38 (.build [.slice 7 [], .slice 7 [], .int .i64 0, .int .i64 0, .int .i64 0, .int .i64 0, .slice 2 [], .slice 3 [], .slice 1 [], .slice 2 [], .slice 1 []] [(0,1,(.t 7)),(1,3,(.t 12)),(4,2,(.t 17)),(6,2,(.t 22)),(8,1,(.t 27)),(9,1,(.t 32)),(10,1,(.t 37))]),
oN (.store 11 (.t 2) (.t 38))] [2] [[],[0],[0,1],[0,1,2],[0,1,2,3],[],[5],[5,6],[5,6,7],[5,6,7,8],[],[10],[10,11],[10,11,12],[10,11,12,13],[],[15],[15,16],[15,16,17],[15,16,17,18],[],[20],[20,21],[20,21,22],[20,21,22,23],[],[25],[25,26],[25,26,27],[25,26,27,28],[],[30],[30,31],[30,31,32],[30,31,32,33],[0,1,2,3,4,5,6,7,8,9,10,11,12,13,14,15,16,17,18,19,20,21,22,23,24,25,26,27,28,29,30,31,32,33,34],[0,1,2,3,4,5,6,7,8,9,10,11,12,13,14,15,16,17,18,19,20,21,22,23,24,25,26,27,28,29,30,31,32,33,34,35]])
.ret))
abbrev Lc:RsT:=[(2,some (some 11))]
theorem aja:an Tryz.prog Tryz.f55 39 LJ Lc = true:=by kernel_rfl
theorem ai6:af Tryz.prog ajT = true:=by kernel_rfl
theorem ahP:ag Tryz.prog ⟨55,39,LJ,Lc,0⟩:=⟨fun _=>⟨ai6,_,Tryz.func55,aja⟩,fun h=>by cases h⟩
abbrev qO:FuncId:=56
def KR:AC:=
(.seq (.reg [oP 1 (.pbox 5 (.t 0)),
oP 2 (.mv (cI 0)),
oP 3 (.mv (cI 0)),
oP 4 (.mv (cI 0))] [1])
(.seq (.reg [oP 9 (.load (some 5) (.t 1)),
oP 10 (.build [.slice 1 [], .slice 1 [], .slice 4 [], .slice 5 [], .slice 4 []] [(0,5,(.t 9))]),
oP 5 (.alloc [.slice 1 [], .slice 1 [], .slice 4 [], .slice 5 [], .slice 4 []]),
oN (.store 5 (.t 5) (.t 10))] [5])
(.frz 5 true (.seq (.seq (.reg [oP 11 (.fieldAddr (some 5) 0 (.t 5)),
oP 12 (.fieldAddr none 0 (.t 11)),
oP 13 (.load none (.t 12)),
oP 14 (.len (.t 13)),
oP 15 (.lit 0 1 1 [(0,(.t 14))]),
oP 16 (.call (.f 92) [false,false,true] [(cI 1),(cI 4),(.t 15)]),
mV 17 16,
gF 18 17 (.fieldAddr (some 5) 0 (.t 5)),
gF 19 17 (.fieldAddr none 1 (.t 18)),
gF 20 17 (.load none (.t 19)),
gF 21 17 (.len (.t 20)),
gF 22 17 (.lit 0 1 1 [(0,(.t 21))]),
gF 23 17 (.call (.f 92) [false,false,true] [(cI 1),(cI 4),(.t 22)]),
oP 24 (.pick (.t 17) (.c (.bool true)) (.t 23)),
mV 25 24,
gF 26 25 (.fieldAddr (some 5) 0 (.t 5)),
gF 27 25 (.fieldAddr none 3 (.t 26)),
gF 28 25 (.load none (.t 27)),
gF 29 25 (.len (.t 28)),
gF 30 25 (.bin .gtr (.t 29) (cI 10)),
oP 31 (.pick (.t 25) (.c (.bool true)) (.t 30)),
mV 32 31,
gF 33 32 (.fieldAddr (some 5) 0 (.t 5)),
gF 34 32 (.fieldAddr none 2 (.t 33)),
gF 35 32 (.load none (.t 34)),
gF 36 32 (.len (.t 35)),
gF 37 32 (.fieldAddr (some 5) 0 (.t 5)),
gF 38 32 (.fieldAddr none 4 (.t 37)),
gF 39 32 (.load none (.t 38)),
gF 40 32 (.len (.t 39)),
gF 41 32 (.mx [(.t 36),(.t 40)]),
gF 42 32 (.bin .gtr (.t 41) (cI 8)),
oP 43 (.pick (.t 32) (.c (.bool true)) (.t 42))] [5,43])
(.cond (.t 43)
(.seq (.reg [oP 2 (.mv (cI 1)),
oP 3 (.mv (cI 0)),
oP 4 (.mv (cI 3))] [2,3,4])
.ret)
.skip))
(.seq (.reg [oP 44 (.mkfunc (.func 93) [] [(.t 5)]),
oP 45 (.mkfunc (.func 95) [] [(.t 5)]),
oP 46 (.mkfunc (.func 96) [] [(.t 5)]),
oP 47 (.mkfunc (.func 98) [] [(.t 5)]),
oP 48 (.mkfunc (.func 101) [] [(.t 5)]),
oP 49 (.build [.nilfunc, .nilfunc, .nilfunc, .nilfunc, .nilfunc] [(0,1,(.t 44)),(1,1,(.t 45)),(2,1,(.t 46)),(3,1,(.t 47)),(4,1,(.t 48))]),
oP 6 (.alloc [.nilfunc, .nilfunc, .nilfunc, .nilfunc, .nilfunc]),
oN (.store 5 (.t 6) (.t 49))] [6])
(.frz 6 true (.seq (.seq (.reg [oP 50 (.load (some 5) (.t 6)),
oP 51 (.mv (cI 0))] [50,51])
(.block 0
(.loop [50,51]
(.seq (.reg [oP 52 (.bin .lss (.t 51) (cI 5))] [50,51,52])
(.seq (.cond (.t 52)
.skip
(.exit 0))
(.seq (.block 1
(.seq (.reg [mV 53 51,
oP 54 (.ixV 5 1 none (.t 50) (.t 51)),
mV 7 53,
mV 8 54] [7,8,50,51])
(.seq (.reg [mV 56 8,
oP 57 (.call (.t 56) [] []),
mV 55 57,
oP 58 (.extract (.t 55) 0),
oP 59 (.extract (.t 55) 1),
mV 3 58,
mV 4 59] [3,4,7,50,51])
(.seq (.reg [mV 60 4,
oP 61 (.bin .neq (.t 60) (cI 0))] [3,4,7,50,51,61])
(.cond (.t 61)
(.seq (.reg [mV 62 7,
oP 63 (.bin .add (.t 62) (cI 2)),
mV 64 3,
mV 65 4,
mV 2 63,
mV 3 64,
mV 4 65] [2,3,4])
.ret)
.skip)))))
(.reg [oP 66 (.bin .add (.t 51) (cI 1)),
mV 51 66] [50,51])))))))
(.seq (.reg [oP 2 (.mv (cI 0)),
oP 3 (.mv (cI 0)),
oP 4 (.mv (cI 0))] [2,3,4])
.ret))))))))
abbrev JZ:RsT:=[(2,none),(3,none),(4,none)]
theorem aj2:an Tryz.prog Tryz.f56 67 KR JZ = true:=by kernel_rfl
theorem aiC:af Tryz.prog qO = true:=by kernel_rfl
theorem agG:ag Tryz.prog ⟨56,67,KR,JZ,0⟩:=⟨fun _=>⟨aiC,_,Tryz.func56,aj2⟩,fun h=>by cases h⟩
abbrev YZ:FuncId:=57
def Mm:AC:=
(.seq (.reg [oP 1 (.pbox 3 (.t 0)),
oP 2 (.mv (cI 0)),
oP 3 (.mv (cI 0)),
oP 4 (.mv (cI 0))] [1])
(.seq (.seq (.reg [oP 6 (.fieldAddr (some 2) 0 (.t 1)),
oP 7 (.load (some 2) (.t 6)),
oP 8 (.call (.f 102) [false] [(.t 7)]),
mV 4 8] [1,4])
(.seq (.reg [mV 9 4,
oP 10 (.bin .neq (.t 9) (cI 0))] [1,4,10])
(.cond (.t 10)
(.seq (.reg [mV 11 4,
oP 2 (.mv (cI 1)),
oP 3 (.mv (cI 0)),
mV 4 11] [2,3,4])
.ret)
.skip)))
(.seq (.seq (.reg [oP 12 (.fieldAddr none 2 (.t 1)),
oP 13 (.load none (.t 12)),
oP 14 (.len (.t 13)),
oP 15 (.lit 0 1 1 [(0,(.t 14))]),
oP 16 (.call (.f 103) [false,false,true] [(cI 1),(cI 8),(.t 15)])] [1,16])
(.cond (.t 16)
(.seq (.reg [oP 2 (.mv (cI 1)),
oP 3 (.mv (cI 0)),
oP 4 (.mv (cI 3))] [2,3,4])
.ret)
.skip))
(.seq (.seq (.reg [oP 17 (.fieldAddr none 2 (.t 1)),
oP 18 (.load none (.t 17)),
oP 19 (.len (.t 18)),
oP 20 (.mv (cI 0))] [1,19,20])
(.block 0
(.loop [1,19,20]
(.seq (.reg [oP 21 (.bin .lss (.t 20) (.t 19))] [1,19,20,21])
(.seq (.cond (.t 21)
.skip
(.exit 0))
(.seq (.block 1
(.seq (.reg [mV 22 20,
mV 5 22] [1,5,19,20])
(.seq (.reg [oP 23 (.fieldAddr none 2 (.t 1)),
oP 24 (.load none (.t 23)),
mV 25 5,
oP 26 (.bin .add (.t 25) (cI 1)),
oP 27 (.subq 4 (.t 24) none (some (.t 26))),
oP 28 (.call (.f 104) [true] [(.t 27)]),
mV 4 28] [1,4,5,19,20])
(.seq (.reg [mV 29 4,
oP 30 (.bin .neq (.t 29) (cI 0))] [1,4,5,19,20,30])
(.cond (.t 30)
(.seq (.reg [mV 31 5,
mV 32 4,
oP 2 (.mv (cI 2)),
mV 3 31,
mV 4 32] [2,3,4])
.ret)
.skip)))))
(.reg [oP 33 (.bin .add (.t 20) (cI 1)),
mV 20 33] [1,19,20])))))))
(.seq (.reg [oP 2 (.mv (cI 0)),
oP 3 (.mv (cI 0)),
oP 4 (.mv (cI 0))] [2,3,4])
.ret)))))
abbrev KZ:RsT:=[(2,none),(3,none),(4,none)]
theorem afE:an Tryz.prog Tryz.f57 34 Mm KZ = true:=by kernel_rfl
theorem ajw:af Tryz.prog YZ = true:=by kernel_rfl
theorem ag3:ag Tryz.prog ⟨57,34,Mm,KZ,0⟩:=⟨fun _=>⟨ajw,_,Tryz.func57,afE⟩,fun h=>by cases h⟩
abbrev ag6:FuncId:=58
def K3:AC:=
(.seq (.reg [oP 4 (.mv (cI 0))] [0,1])
(.seq (.seq (.reg [mV 6 0,
oP 7 (.len (.t 6)),
oP 8 (.mv (cI 0))] [0,1,7,8])
(.block 0
(.loop [0,1,7,8]
(.seq (.reg [oP 9 (.bin .lss (.t 8) (.t 7))] [0,1,7,8,9])
(.seq (.cond (.t 9)
.skip
(.exit 0))
(.seq (.block 1
(.seq (.reg [mV 10 8,
mV 5 10] [0,1,5,7,8])
(.seq (.reg [mV 11 1,
mV 12 0,
mV 13 5,
oP 14 (.ixS 1 (.t 12) (.t 13)),
oP 15 (.load none (.t 14)),
oP 16 (.call (.t 11) [false] [(.t 15)])] [0,1,5,7,8,16])
(.cond (.t 16)
(.seq (.reg [mV 17 5,
mV 4 17] [4])
.ret)
.skip))))
(.reg [oP 18 (.bin .add (.t 8) (cI 1)),
mV 8 18] [0,1,7,8])))))))
(.seq (.reg [oP 4 (.mv (cI (-1)))] [4])
.ret)))
abbrev Kv:RsT:=[(4,none)]
theorem ahx:an Tryz.prog Tryz.f58 19 K3 Kv = true:=by kernel_rfl
theorem aj1:af Tryz.prog ag6 = true:=by kernel_rfl
theorem ag5:ag Tryz.prog ⟨58,19,K3,Kv,0⟩:=⟨fun _=>⟨aj1,_,Tryz.func58,ahx⟩,fun h=>by cases h⟩
abbrev O4:FuncId:=59
def M1:AC:=
(.seq (.reg [oP 2 (.pbox 2 (.t 0)),
oP 4 (.alloc [.slice 7 []]),
oP 5 (.mv (cI 0))] [1,2,4])
(.seq (.reg [oP 12 (.load (some 2) (.t 2)),
mV 13 1,
oP 14 (.call (.f 105) [true,false] [(.t 12),(.t 13)]),
mV 11 14,
oP 15 (.extract (.t 11) 0),
oP 16 (.extract (.t 11) 1),
oP 6 (.alloc [.slice 7 []]),
oN (.store 1 (.t 6) (.t 15)),
mV 7 16] [4,6,7])
(.frz 6 true (.seq (.seq (.reg [mV 17 7,
oP 18 (.bin .neq (.t 17) (cI 0))] [4,6,7,18])
(.cond (.t 18)
(.seq (.reg [oP 19 (.build [.slice 7 []] []),
mV 20 7,
oN (.store 1 (.t 4) (.t 19)),
mV 5 20] [4,5])
.ret)
.skip))
(.seq (.reg [oP 21 (.fieldAddr (some 1) 0 (.t 6)),
oP 22 (.fieldAddr none 0 (.t 21)),
oP 23 (.load none (.t 22)),
oP 24 (.len (.t 23)),
oP 25 (.mksl 2 7 80 (.agg [.str ByteArray.empty, .int .i64 0, .int .i64 0, .int .i64 0, .slice 1 [], .int .i64 0, .int .i64 0]) (.t 24) (.t 24)),
mV 8 25] [4,6,8])
(.seq (.seq (.reg [oP 26 (.fieldAddr (some 1) 0 (.t 6)),
oP 27 (.fieldAddr none 0 (.t 26)),
oP 28 (.load none (.t 27)),
oP 29 (.len (.t 28)),
oP 30 (.mv (cI 0))] [4,8,28,29,30])
(.block 0
(.loop [4,8,28,29,30]
(.seq (.reg [oP 31 (.bin .lss (.t 30) (.t 29))] [4,8,28,29,30,31])
(.seq (.cond (.t 31)
.skip
(.exit 0))
(.seq (.block 1
(.seq (.reg [mV 32 30,
oP 33 (.ixS 7 (.t 28) (.t 30)),
oP 34 (.load (some 7) (.t 33)),
oP 10 (.alloc [.str ByteArray.empty, .int .i64 0, .int .i64 0, .int .i64 0, .slice 1 [], .int .i64 0, .int .i64 0]),
mV 9 32,
oN (.store 7 (.t 10) (.t 34))] [4,8,9,10,28,29,30])
(.frz 10 true (.reg [mV 35 8,
mV 36 9,
oP 37 (.load (some 7) (.t 10)),
oP 38 (.call (.f 106) [true] [(.t 37)]),
oP 39 (.ixS 7 (.t 35) (.t 36)),
oN (.store 7 (.t 39) (.t 38))] [4,8,28,29,30]))))
(.reg [oP 40 (.bin .add (.t 30) (cI 1)),
mV 30 40] [4,8,28,29,30])))))))
(.seq (.reg [oP 41 (.freeze 7 (.t 8)),
oP 42 (.build [.slice 7 []] [(0,1,(.t 41))]),
oN (.store 1 (.t 4) (.t 42)),
oP 5 (.mv (cI 0))] [4,5])
.ret)))))))
abbrev KF:RsT:=[(4,some (some 1)),(5,none)]
theorem aga:an Tryz.prog Tryz.f59 43 M1 KF = true:=by kernel_rfl
theorem agV:af Tryz.prog O4 = true:=by kernel_rfl
theorem aiM:ag Tryz.prog ⟨59,43,M1,KF,0⟩:=⟨fun _=>⟨agV,_,Tryz.func59,aga⟩,fun h=>by cases h⟩
abbrev Ig:FuncId:=61
theorem af6:af Tryz.prog Ig = true:=by kernel_rfl
abbrev IZ:FuncId:=62
theorem afF:af Tryz.prog IZ = true:=by kernel_rfl
abbrev agF:FuncId:=63
def MU:AC:=
(.seq (.reg [oP 6 (.mv (.c (.slice 1 [])))] [0,2])
(.seq (.reg [mV 12 0,
oP 13 (.nilchk (.t 12)),
oP 14 (.fieldAddr (some 10) 36 (.t 13)),
oP 15 (.fieldAddr none 1 (.t 14)),
oP 16 (.load none (.t 15)),
oP 17 (.un .not (.t 16)),
oP 18 (.call (.f 37) [false,false] [(.t 17),(cI 5)]),
oP 19 (.lit 0 1 1 [(0,(.t 18))]),
oP 20 (.call (.f 36) [true] [(.t 19)])] [0,2])
(.seq (.dreg [mV 22 0,
oP 23 (.nilchk (.t 22)),
oP 24 (.fieldAddr (some 36) 0 (.t 23)),
oP 25 (.fieldAddr (some 6) 2 (.t 24)),
oP 26 (.load (some 6) (.t 25)),
mV 27 0,
oP 28 (.nilchk (.t 27)),
oP 29 (.fieldAddr (some 36) 0 (.t 28)),
oP 30 (.fieldAddr (some 3) 8 (.t 29)),
oP 31 (.load (some 3) (.t 30)),
mV 32 2,
oP 33 (.ixS 1 (.t 32) (cI 0)),
oP 34 (.load none (.t 33)),
mV 35 2,
oP 36 (.ixS 1 (.t 35) (cI 1)),
oP 37 (.load none (.t 36)),
oP 38 (.call (.f 113) [true,false,false,false] [(.t 26),(.t 31),(.t 34),(.t 37)]),
mV 21 38,
oP 39 (.extract (.t 21) 0),
oP 40 (.extract (.t 21) 1),
oP 41 (.extract (.t 21) 2),
oP 7 (.alloc [.int .i64 0, .int .i64 0, .int .i64 0, .int .i64 0]),
oN (.store 4 (.t 7) (.t 39)),
mV 8 40,
mV 9 41] [0,2,9] [[],[0],[0,1],[0,1,2],[0,1,2,3],[],[5],[5,6],[5,6,7],[5,6,7,8],[],[10],[10,11],[],[13],[13,14],[0,1,2,3,4,5,6,7,8,9,10,11,12,13,14,15],[0,1,2,3,4,5,6,7,8,9,10,11,12,13,14,15,16],[0,1,2,3,4,5,6,7,8,9,10,11,12,13,14,15,16,17],[0,1,2,3,4,5,6,7,8,9,10,11,12,13,14,15,16,17],[0,1,2,3,4,5,6,7,8,9,10,11,12,13,14,15,16,17],[],[0,1,2,3,4,5,6,7,8,9,10,11,12,13,14,15,16,17,18,21],[0,1,2,3,4,5,6,7,8,9,10,11,12,13,14,15,16,17,18,19,21,22],[0,1,2,3,4,5,6,7,8,9,10,11,12,13,14,15,16,17,18,19,20,21,22,23]])
(.seq (.seq (.reg [mV 42 9] [0,2,9,42])
(.block 0
(.seq (.reg [oP 47 (.bin .eql (.t 42) (cI 0)),
mV 46 47] [0,2,9,42,46])
(.cond (.t 46)
(.reg [oP 48 (.lit 0 1 1 [(0,(cI 9))]),
oP 49 (.call (.f 36) [true] [(.t 48)])] [0,2])
(.seq (.reg [oP 51 (.bin .eql (.t 42) (cI 9)),
mV 50 51] [0,2,9,50])
(.cond (.t 50)
.skip
(.reg [mV 43 9,
oP 44 (.lit 0 1 1 [(0,(.t 43))]),
oP 45 (.call (.f 36) [true] [(.t 44)])] [0,2])))))))
(.seq (.dreg [mV 52 0,
mV 53 0,
mV 54 2,
oP 55 (.ixS 1 (.t 54) (cI 0)),
oP 56 (.load none (.t 55)),
mV 57 2,
oP 58 (.ixS 1 (.t 57) (cI 1)),
oP 59 (.load none (.t 58)),
oP 60 (.build [.int .i64 0, .int .i64 0] [(0,1,(.t 56)),(1,1,(.t 59))]),
oP 61 (.nilchk (.t 52)),
oP 62 (.fieldAddr (some 10) 36 (.t 61)),
oP 63 (.fieldAddr none 1 (.t 62)),
oN (.store 1 (.t 63) (.c (.bool true))),
oP 64 (.nilchk (.t 53)),
oP 65 (.fieldAddr (some 10) 36 (.t 64)),
oP 66 (.fieldAddr (some 2) 2 (.t 65)),
oN (.store 2 (.t 66) (.t 60))] [0,2] [[],[],[],[2],[2,3],[],[5],[5,6],[2,3,4,5,6,7],[0,2,3,4,5,6,7],[0,2,3,4,5,6,7,9],[0,2,3,4,5,6,7,9,10],[0,2,3,4,5,6,7,9,10,11],[0,1,2,3,4,5,6,7,8,9,10,11,12],[0,1,2,3,4,5,6,7,8,9,10,11,12,13],[0,1,2,3,4,5,6,7,8,9,10,11,12,13,14],[0,1,2,3,4,5,6,7,8,9,10,11,12,13,14,15]])
(.seq (.dreg [mV 68 0,
oP 69 (.nilchk (.t 68)),
oP 70 (.fieldAddr (some 36) 0 (.t 69)),
oP 71 (.fieldAddr (some 6) 2 (.t 70)),
oP 72 (.load (some 6) (.t 71)),
mV 73 0,
oP 74 (.nilchk (.t 73)),
oP 75 (.fieldAddr (some 36) 0 (.t 74)),
oP 76 (.fieldAddr (some 3) 8 (.t 75)),
oP 77 (.load (some 3) (.t 76)),
mV 78 2,
oP 79 (.ixS 1 (.t 78) (cI 0)),
oP 80 (.load none (.t 79)),
mV 81 2,
oP 82 (.ixS 1 (.t 81) (cI 1)),
oP 83 (.load none (.t 82)),
oP 84 (.call (.f 114) [true,false,false,false] [(.t 72),(.t 77),(.t 80),(.t 83)]),
mV 67 84,
oP 85 (.extract (.t 67) 0),
oP 86 (.extract (.t 67) 1),
oP 10 (.alloc [.int .i64 0, .int .i64 0]),
oN (.store 2 (.t 10) (.t 85)),
mV 11 86] [10] [[],[0],[0,1],[0,1,2],[0,1,2,3],[],[5],[5,6],[5,6,7],[5,6,7,8],[],[10],[10,11],[],[13],[13,14],[0,1,2,3,4,5,6,7,8,9,10,11,12,13,14,15],[0,1,2,3,4,5,6,7,8,9,10,11,12,13,14,15,16],[0,1,2,3,4,5,6,7,8,9,10,11,12,13,14,15,16,17],[0,1,2,3,4,5,6,7,8,9,10,11,12,13,14,15,16,17],[],[0,1,2,3,4,5,6,7,8,9,10,11,12,13,14,15,16,17,18,20],[0,1,2,3,4,5,6,7,8,9,10,11,12,13,14,15,16,17,18,19,20,21]])
(.seq (.reg [oP 87 (.load (some 2) (.t 10)),
oP 88 (.lit 0 2 1 [(0,(.t 87))]),
oP 89 (.call (.f 115) [true] [(.t 88)]),
oP 6 (.mvd (.t 89))] [6])
.ret)))))))
abbrev LQ:RsT:=[(6,none)]
theorem ahf:an Tryz.prog Tryz.f63 90 MU LQ = true:=by kernel_rfl
theorem aiG:af Tryz.prog agF = true:=by kernel_rfl
theorem ajy:ag Tryz.prog ⟨63,90,MU,LQ,0⟩:=⟨fun _=>⟨aiG,_,Tryz.func63,ahf⟩,fun h=>by cases h⟩
abbrev aij:FuncId:=64
def JO:AC:=
(.seq (.reg [oP 6 (.mv (.c (.slice 1 [])))] [0,2])
(.seq (.dreg [mV 10 0,
oP 11 (.nilchk (.t 10)),
oP 12 (.fieldAddr (some 10) 36 (.t 11)),
oP 13 (.fieldAddr none 4 (.t 12)),
oP 14 (.load none (.t 13)),
mV 15 2,
oP 16 (.ixS 1 (.t 15) (cI 0)),
oP 17 (.load none (.t 16)),
oP 18 (.call (.f 116) [true,false] [(.t 14),(.t 17)]),
mV 9 18,
oP 19 (.extract (.t 9) 0),
oP 20 (.extract (.t 9) 1),
mV 7 19,
mV 8 20] [0,2,7,8] [[],[0],[0,1],[0,1,2],[0,1,2,3],[],[5],[5,6],[0,1,2,3,4,5,6,7],[0,1,2,3,4,5,6,7,8],[0,1,2,3,4,5,6,7,8,9],[0,1,2,3,4,5,6,7,8,9],[0,1,2,3,4,5,6,7,8,9,10],[0,1,2,3,4,5,6,7,8,9,10,11,12]])
(.seq (.reg [mV 21 0,
oP 22 (.nilchk (.t 21)),
oP 23 (.fieldAddr (some 10) 36 (.t 22)),
oP 24 (.fieldAddr none 5 (.t 23)),
oP 25 (.load none (.t 24)),
oP 26 (.len (.t 25)),
oP 27 (.bin .eql (.t 26) (cI 0)),
oP 28 (.call (.f 37) [false,false] [(.t 27),(cI 2)]),
mV 29 8,
oP 30 (.un .not (.t 29)),
oP 31 (.call (.f 37) [false,false] [(.t 30),(cI 5)]),
oP 32 (.lit 0 1 2 [(0,(.t 28)),(1,(.t 31))]),
oP 33 (.call (.f 36) [true] [(.t 32)])] [0,2,7])
(.seq (.oreg [mV 34 0,
mV 35 0,
oP 36 (.nilchk (.t 35)),
oP 37 (.fieldAddr (some 10) 36 (.t 36)),
oP 38 (.fieldAddr none 4 (.t 37)),
oP 39 (.load none (.t 38)),
oP 40 (.call (.f 118) [true] [(.t 39)]),
mV 41 7,
mV 42 2,
oP 43 (.ixS 1 (.t 42) (cI 0)),
oP 44 (.load none (.t 43)),
oP 45 (.lit 2 1 1 [(0,(.t 44))]),
oP 46 (.call (.f 117) [true,false,true] [(.t 40),(.t 41),(.t 45)]),
oP 47 (.nilchk (.t 34)),
oP 48 (.fieldAddr (some 10) 36 (.t 47)),
oP 49 (.fieldAddr none 4 (.t 48)),
oN (.store 1 (.t 49) (.t 46))] [0] 6 11 ⟨[],[[],[],[1],[1,2],[1,2,3],[1,2,3,4],[1,2,3,4,5],[],[],[8],[8,9],[1,2,3,4,5,6,8,9,10],[1,2,3,4,5,6,7,8,9,10,11],[0,1,2,3,4,5,6,7,8,9,10,11,12],[0,1,2,3,4,5,6,7,8,9,10,11,12,13],[0,1,2,3,4,5,6,7,8,9,10,11,12,13,14],[0,1,2,3,4,5,6,7,8,9,10,11,12,13,14,15]],[([0,1,2,3,4,5,7,8,9,10],6),([],11),([],12),([13,14,15],16)],[]⟩ ⟨[0,1,2,3,4,5,11,6,7,8,9,10,12,13,14,15,16],[[],[],[1],[1,2],[1,2,3],[1,2,3,4],[1,2,3,4,5,8,9,10,11],[],[],[8],[8,9],[8,9,10],[1,2,3,4,5,6,7,8,9,10,11],[0,1,2,3,4,5,6,7,8,9,10,11,12],[0,1,2,3,4,5,6,7,8,9,10,11,12,13],[0,1,2,3,4,5,6,7,8,9,10,11,12,13,14],[0,1,2,3,4,5,6,7,8,9,10,11,12,13,14,15]],[([0,1,2,3,4,5,7,8,9,10],11),([],6),([],12),([13,14,15],16)],[]⟩)
(.seq (.reg [mV 50 0,
oP 51 (.call (.f 71) [false,true,true] [(.t 50),(.c (.slice 1 [])),(.c (.slice 1 []))])] [0])
(.seq (.reg [mV 52 0,
oP 53 (.nilchk (.t 52)),
oP 54 (.fieldAddr (some 10) 36 (.t 53)),
oP 55 (.fieldAddr none 4 (.t 54)),
oP 56 (.load none (.t 55)),
oP 57 (.call (.f 118) [true] [(.t 56)]),
oP 6 (.freeze 1 (.t 57))] [6])
.ret))))))
abbrev JW:RsT:=[(6,none)]
theorem ajZ:an Tryz.prog Tryz.f64 58 JO JW = true:=by kernel_rfl
theorem afS:af Tryz.prog aij = true:=by kernel_rfl
theorem ahK:ag Tryz.prog ⟨64,58,JO,JW,0⟩:=⟨fun _=>⟨afS,_,Tryz.func64,ajZ⟩,fun h=>by cases h⟩
abbrev ahu:FuncId:=65
def Mb:AC:=
(.seq (.reg [oP 6 (.mv (.c (.slice 1 [])))] [0,1])
(.seq (.reg [mV 7 0,
mV 8 1,
oP 9 (.ixS 1 (.t 8) (cI 0)),
oP 10 (.load none (.t 9)),
oP 11 (.call (.f 119) [false,false,false] [(.t 7),(.t 10),(.c (.bool false))]),
oP 6 (.mvd (.t 11))] [6])
.ret))
abbrev MT:RsT:=[(6,none)]
theorem aic:an Tryz.prog Tryz.f65 12 Mb MT = true:=by kernel_rfl
theorem aiI:af Tryz.prog ahu = true:=by kernel_rfl
theorem af7:ag Tryz.prog ⟨65,12,Mb,MT,0⟩:=⟨fun _=>⟨aiI,_,Tryz.func65,aic⟩,fun h=>by cases h⟩
abbrev afI:FuncId:=66
def MD:AC:=
(.seq (.reg [oP 6 (.mv (.c (.slice 1 [])))] [0,1])
(.seq (.reg [mV 7 0,
mV 8 1,
oP 9 (.ixS 1 (.t 8) (cI 0)),
oP 10 (.load none (.t 9)),
oP 11 (.call (.f 119) [false,false,false] [(.t 7),(.t 10),(.c (.bool true))]),
oP 6 (.mvd (.t 11))] [6])
.ret))
abbrev KJ:RsT:=[(6,none)]
theorem aiF:an Tryz.prog Tryz.f66 12 MD KJ = true:=by kernel_rfl
theorem afN:af Tryz.prog afI = true:=by kernel_rfl
theorem ajl:ag Tryz.prog ⟨66,12,MD,KJ,0⟩:=⟨fun _=>⟨afN,_,Tryz.func66,aiF⟩,fun h=>by cases h⟩
abbrev aj0:FuncId:=67
def L4:AC:=
(.seq (.reg [oP 6 (.mv (.c (.slice 1 [])))] [0,1,2])
(.seq (.dreg [mV 10 0,
oP 11 (.nilchk (.t 10)),
oP 12 (.fieldAddr (some 36) 0 (.t 11)),
oP 13 (.fieldAddr (some 9) 11 (.t 12)),
oP 14 (.fieldAddr none 8 (.t 13)),
oP 15 (.load none (.t 14)),
mV 16 1,
oP 17 (.ixS 1 (.t 16) (cI 0)),
oP 18 (.load none (.t 17)),
oP 19 (.call (.f 120) [true,false,false] [(.t 15),(.t 18),(.f 121)]),
mV 7 19] [0,2,7] [[],[0],[0,1],[0,1,2],[0,1,2,3],[0,1,2,3,4],[],[6],[6,7],[0,1,2,3,4,5,6,7,8],[0,1,2,3,4,5,6,7,8,9]])
(.seq (.creg [mV 20 0,
mV 21 0,
oP 22 (.nilchk (.t 21)),
oP 23 (.fieldAddr (some 10) 36 (.t 22)),
oP 24 (.fieldAddr none 6 (.t 23)),
oP 25 (.load none (.t 24)),
oP 26 (.call (.f 122) [true] [(.t 25)]),
mV 27 2,
oP 28 (.ixS 1 (.t 27) (cI 0)),
oP 29 (.load none (.t 28)),
mV 30 7,
mV 31 2,
oP 32 (.ixS 1 (.t 31) (cI 1)),
oP 33 (.load none (.t 32)),
oP 34 (.build [.int .i64 0, .int .i64 0, .int .i64 0] [(0,1,(.t 29)),(1,1,(.t 30)),(2,1,(.t 33))]),
oP 35 (.lit 0 3 1 [(0,(.t 34))]),
oP 36 (.append 3 24 (.t 26) (.t 35)),
oP 37 (.nilchk (.t 20)),
oP 38 (.fieldAddr (some 10) 36 (.t 37)),
oP 39 (.fieldAddr none 6 (.t 38)),
oN (.store 1 (.t 39) (.t 36))] [0,2] [[],[],[1],[1,2],[1,2,3],[1,2,3,4],[1,2,3,4,5],[],[7],[7,8],[],[],[11],[11,12],[7,8,9,10,11,12,13],[7,8,9,10,11,12,13,14],[1,2,3,4,5,6,7,8,9,10,11,12,13,14,15],[0,1,2,3,4,5,6,7,8,9,10,11,12,13,14,15,16],[0,1,2,3,4,5,6,7,8,9,10,11,12,13,14,15,16,17],[0,1,2,3,4,5,6,7,8,9,10,11,12,13,14,15,16,17,18],[0,1,2,3,4,5,6,7,8,9,10,11,12,13,14,15,16,17,18,19]] [([0,1,2,3,4,5,7,8,9,10,11,12,13,14,15],6),([],16),([17,18,19],20)] [])
(.gG 0 42 3 (.seq (.dreg [mV 41 0,
oP 42 (.nilchk (.t 41)),
oP 43 (.fieldAddr (some 36) 0 (.t 42)),
oP 44 (.fieldAddr (some 9) 11 (.t 43)),
oP 45 (.load (some 9) (.t 44)),
mV 46 0,
oP 47 (.nilchk (.t 46)),
oP 48 (.fieldAddr (some 10) 36 (.t 47)),
oP 49 (.fieldAddr none 6 (.t 48)),
oP 50 (.load none (.t 49)),
mV 51 2,
oP 52 (.ixS 1 (.t 51) (cI 0)),
oP 53 (.load none (.t 52)),
oP 54 (.call (.f 123) [true,true,false] [(.t 45),(.t 50),(.t 53)]),
mV 40 54,
oP 55 (.extract (.t 40) 0),
oP 56 (.extract (.t 40) 1),
oP 8 (.alloc [.int .i64 0, .int .i64 0]),
oN (.store 2 (.t 8) (.t 55)),
mV 9 56] [8,9] [[],[0],[0,1],[0,1,2],[0,1,2,3],[],[5],[5,6],[5,6,7],[5,6,7,8],[],[10],[10,11],[0,1,2,3,4,5,6,7,8,9,10,11,12],[0,1,2,3,4,5,6,7,8,9,10,11,12,13],[0,1,2,3,4,5,6,7,8,9,10,11,12,13,14],[0,1,2,3,4,5,6,7,8,9,10,11,12,13,14],[],[0,1,2,3,4,5,6,7,8,9,10,11,12,13,14,15,17],[0,1,2,3,4,5,6,7,8,9,10,11,12,13,14,15,16,17,18]])
(.seq (.reg [mV 57 9,
oP 58 (.lit 0 1 1 [(0,(.t 57))]),
oP 59 (.call (.f 36) [true] [(.t 58)])] [8])
(.seq (.reg [oP 60 (.load (some 2) (.t 8)),
oP 61 (.lit 0 2 1 [(0,(.t 60))]),
oP 62 (.call (.f 115) [true] [(.t 61)]),
oP 6 (.mvd (.t 62))] [6])
.ret)))))))
abbrev J1:RsT:=[(6,none)]
theorem afD:an Tryz.prog Tryz.f67 63 L4 J1 = true:=by kernel_rfl
theorem ail:af Tryz.prog aj0 = true:=by kernel_rfl
theorem ajS:ag Tryz.prog ⟨67,63,L4,J1,0⟩:=⟨fun _=>⟨ail,_,Tryz.func67,afD⟩,fun h=>by cases h⟩
abbrev ah6:FuncId:=68
def MF:AC:=
(.seq (.reg [oP 6 (.mv (.c (.slice 1 [])))] [0,1,2])
(.seq (.reg [mV 12 0,
oP 13 (.nilchk (.t 12)),
oP 14 (.fieldAddr (some 10) 36 (.t 13)),
oP 15 (.fieldAddr none 1 (.t 14)),
oP 16 (.load none (.t 15)),
oP 17 (.call (.f 37) [false,false] [(.t 16),(cI 8)]),
oP 18 (.lit 0 1 1 [(0,(.t 17))]),
oP 19 (.call (.f 36) [true] [(.t 18)])] [0,1,2])
(.seq (.creg [mV 20 0,
oP 21 (.nilchk (.t 20)),
oP 22 (.fieldAddr none 46 (.t 21)),
oP 23 (.load none (.t 22)),
mV 24 1,
oP 25 (.ixS 1 (.t 24) (cI 0)),
oP 26 (.load none (.t 25)),
oP 27 (.call (.f 124) [true,false,false] [(.t 23),(.t 26),(.f 125)]),
mV 7 27] [0,2,7] [[],[0],[0,1],[0,1,2],[],[4],[4,5],[0,1,2,3,4,5,6],[0,1,2,3,4,5,6,7]] [([0,1,2,3,4,5,6],7)] [8])
(.seq (.dreg [mV 29 0,
oP 30 (.nilchk (.t 29)),
oP 31 (.fieldAddr (some 36) 0 (.t 30)),
oP 32 (.fieldAddr (some 9) 11 (.t 31)),
oP 33 (.load (some 9) (.t 32)),
mV 34 0,
oP 35 (.nilchk (.t 34)),
oP 36 (.fieldAddr (some 10) 36 (.t 35)),
oP 37 (.fieldAddr none 6 (.t 36)),
oP 38 (.load none (.t 37)),
mV 39 2,
oP 40 (.ixS 1 (.t 39) (cI 0)),
oP 41 (.load none (.t 40)),
oP 42 (.call (.f 126) [true,true,false] [(.t 33),(.t 38),(.t 41)]),
mV 28 42,
oP 43 (.extract (.t 28) 0),
oP 44 (.extract (.t 28) 1),
mV 8 43,
mV 9 44] [0,7,8,9] [[],[0],[0,1],[0,1,2],[0,1,2,3],[],[5],[5,6],[5,6,7],[5,6,7,8],[],[10],[10,11],[0,1,2,3,4,5,6,7,8,9,10,11,12],[0,1,2,3,4,5,6,7,8,9,10,11,12,13],[0,1,2,3,4,5,6,7,8,9,10,11,12,13,14],[0,1,2,3,4,5,6,7,8,9,10,11,12,13,14],[0,1,2,3,4,5,6,7,8,9,10,11,12,13,14,15],[0,1,2,3,4,5,6,7,8,9,10,11,12,13,14,15,16,17]])
(.seq (.reg [mV 45 9,
mV 46 8,
oP 47 (.bin .geq (.t 46) (cI 0)),
oP 48 (.call (.f 37) [false,false] [(.t 47),(cI 9)]),
oP 49 (.lit 0 1 2 [(0,(.t 45)),(1,(.t 48))]),
oP 50 (.call (.f 36) [true] [(.t 49)])] [0,7])
(.seq (.reg [mV 51 0,
mV 52 0,
oP 53 (.nilchk (.t 52)),
oP 54 (.fieldAddr (some 10) 36 (.t 53)),
oP 55 (.fieldAddr none 7 (.t 54)),
oP 56 (.load none (.t 55)),
oP 57 (.call (.f 118) [true] [(.t 56)]),
mV 58 7,
oP 59 (.lit 0 1 1 [(0,(.t 58))]),
oP 60 (.append 1 8 (.t 57) (.t 59)),
oP 61 (.nilchk (.t 51)),
oP 62 (.fieldAddr (some 10) 36 (.t 61)),
oP 63 (.fieldAddr none 7 (.t 62)),
oN (.store 1 (.t 63) (.t 60))] [0,7])
(.gG 0 43 1 (.seq (.qreg [mV 65 0,
oP 66 (.call (.f 55) [false] [(.t 65)]),
mV 67 0,
oP 68 (.nilchk (.t 67)),
oP 69 (.fieldAddr (some 10) 36 (.t 68)),
oP 70 (.fieldAddr none 7 (.t 69)),
oP 71 (.load none (.t 70)),
oP 72 (.call (.f 127) [true,true] [(.t 66),(.t 71)]),
mV 64 72,
oP 73 (.extract (.t 64) 0),
oP 74 (.extract (.t 64) 1),
oP 75 (.extract (.t 64) 2),
mV 10 73,
mV 11 74,
mV 9 75] [0,7,9,10] [[],[0],[],[2],[2,3],[2,3,4],[2,3,4,5],[0,1,2,3,4,5,6],[0,1,2,3,4,5,6,7],[0,1,2,3,4,5,6,7,8],[0,1,2,3,4,5,6,7,8],[0,1,2,3,4,5,6,7,8],[0,1,2,3,4,5,6,7,8,9],[0,1,2,3,4,5,6,7,8,9,10,12],[0,1,2,3,4,5,6,7,8,9,10,11,12,13]] [([0,2,3,4,5,6],1),([],7)] [8,9,10,11,12,13,14])
(.seq (.reg [mV 76 9,
mV 77 10,
oP 78 (.bin .lss (.t 77) (cI 0)),
oP 79 (.call (.f 37) [false,false] [(.t 78),(cI 9)]),
oP 80 (.lit 0 1 2 [(0,(.t 76)),(1,(.t 79))]),
oP 81 (.call (.f 36) [true] [(.t 80)])] [0,7])
(.seq (.reg [mV 82 0,
oP 83 (.nilchk (.t 82)),
oP 84 (.fieldAddr none 46 (.t 83)),
oP 85 (.load none (.t 84)),
mV 86 7,
oP 87 (.ixS 7 (.t 85) (.t 86)),
oP 88 (.fieldAddr (some 2) 5 (.t 87)),
oP 89 (.load (some 2) (.t 88)),
oP 90 (.lit 0 2 1 [(0,(.t 89))]),
oP 91 (.call (.f 115) [true] [(.t 90)]),
oP 6 (.mvd (.t 91))] [6])
.ret))))))))))
abbrev La:RsT:=[(6,none)]
theorem ajF:an Tryz.prog Tryz.f68 92 MF La = true:=by kernel_rfl
theorem afc:af Tryz.prog ah6 = true:=by kernel_rfl
theorem agK:ag Tryz.prog ⟨68,92,MF,La,0⟩:=⟨fun _=>⟨afc,_,Tryz.func68,ajF⟩,fun h=>by cases h⟩
abbrev ahZ:FuncId:=69
def KW:AC:=
(.seq (.reg [oP 6 (.mv (.c (.slice 1 [])))] [0,1,2])
(.seq (.creg [mV 12 0,
oP 13 (.nilchk (.t 12)),
oP 14 (.fieldAddr (some 36) 0 (.t 13)),
oP 15 (.fieldAddr (some 5) 28 (.t 14)),
oP 16 (.fieldAddr none 0 (.t 15)),
oP 17 (.load none (.t 16)),
mV 18 1,
oP 19 (.ixS 1 (.t 18) (cI 0)),
oP 20 (.load none (.t 19)),
oP 21 (.call (.f 128) [true,false,false] [(.t 17),(.t 20),(.f 129)]),
mV 22 0,
mV 23 1,
oP 24 (.ixS 1 (.t 23) (cI 1)),
oP 25 (.load none (.t 24)),
oP 26 (.call (.f 130) [false,false] [(.t 22),(.t 25)]),
mV 27 0,
mV 28 1,
oP 29 (.ixS 1 (.t 28) (cI 2)),
oP 30 (.load none (.t 29)),
oP 31 (.call (.f 130) [false,false] [(.t 27),(.t 30)]),
mV 32 2,
oP 33 (.ixS 1 (.t 32) (cI 0)),
oP 34 (.load none (.t 33)),
mV 35 2,
oP 36 (.ixS 1 (.t 35) (cI 1)),
oP 37 (.load none (.t 36)),
oP 38 (.build [.int .i64 0, .int .i64 0, .int .i64 0, .int .i64 0, .int .i64 0] [(0,1,(.t 21)),(1,1,(.t 26)),(2,1,(.t 31)),(3,1,(.t 34)),(4,1,(.t 37))]),
oP 7 (.alloc [.int .i64 0, .int .i64 0, .int .i64 0, .int .i64 0, .int .i64 0]),
oN (.store 5 (.t 7) (.t 38))] [0,7] [[],[0],[0,1],[0,1,2],[0,1,2,3],[0,1,2,3,4],[],[6],[6,7],[0,1,2,3,4,5,6,7,8],[],[],[11],[11,12],[0,1,2,3,4,5,6,7,8,9,10,11,12,13],[],[],[16],[16,17],[0,1,2,3,4,5,6,7,8,9,10,11,12,13,14,15,16,17,18],[],[20],[20,21],[],[23],[23,24],[0,1,2,3,4,5,6,7,8,9,10,11,12,13,14,15,16,17,18,19,20,21,22,23,24,25],[],[0,1,2,3,4,5,6,7,8,9,10,11,12,13,14,15,16,17,18,19,20,21,22,23,24,25,26,27]] [([0,1,2,3,4,5,6,7,8,9,10,11,12,13,14,15,16,17,18,19,20,21,22,23,24,25,26],27),([],28)] [])
(.seq (.reg [mV 39 0,
oP 40 (.nilchk (.t 39)),
oP 41 (.fieldAddr (some 10) 36 (.t 40)),
oP 42 (.fieldAddr none 8 (.t 41)),
oP 43 (.load none (.t 42)),
oP 44 (.len (.t 43)),
mV 8 44] [0,7,8])
(.seq (.creg [mV 45 0,
mV 46 0,
oP 47 (.nilchk (.t 46)),
oP 48 (.fieldAddr (some 10) 36 (.t 47)),
oP 49 (.fieldAddr none 8 (.t 48)),
oP 50 (.load none (.t 49)),
oP 51 (.call (.f 131) [true] [(.t 50)]),
oP 52 (.load (some 5) (.t 7)),
oP 53 (.lit 0 5 1 [(0,(.t 52))]),
oP 54 (.append 5 40 (.t 51) (.t 53)),
oP 55 (.nilchk (.t 45)),
oP 56 (.fieldAddr (some 10) 36 (.t 55)),
oP 57 (.fieldAddr none 8 (.t 56)),
oN (.store 1 (.t 57) (.t 54))] [0,7,8] [[],[],[1],[1,2],[1,2,3],[1,2,3,4],[1,2,3,4,5],[],[7],[1,2,3,4,5,6,7,8],[0,1,2,3,4,5,6,7,8,9],[0,1,2,3,4,5,6,7,8,9,10],[0,1,2,3,4,5,6,7,8,9,10,11],[0,1,2,3,4,5,6,7,8,9,10,11,12]] [([0,1,2,3,4,5,7,8],6),([],9),([10,11,12],13)] [])
(.seq (.seq (.dreg [oP 58 (.fieldAddr none 4 (.t 7)),
oP 59 (.load none (.t 58)),
oP 60 (.bin .geq (.t 59) (cI 0)),
mV 61 60,
gT 62 61 (.fieldAddr none 4 (.t 7)),
gT 63 61 (.load none (.t 62)),
gT 64 61 (.mv (.t 8)),
gT 65 61 (.bin .lss (.t 63) (.t 64)),
oP 66 (.pick (.t 61) (.t 65) (.c (.bool false))),
mV 67 66,
gT 68 67 (.mv (.t 0)),
gT 69 67 (.nilchk (.t 68)),
gT 70 67 (.fieldAddr (some 10) 36 (.t 69)),
gT 71 67 (.fieldAddr none 8 (.t 70)),
gT 72 67 (.load none (.t 71)),
gT 73 67 (.fieldAddr none 4 (.t 7)),
gT 74 67 (.load none (.t 73)),
gT 75 67 (.ixS 5 (.t 72) (.t 74)),
gT 76 67 (.fieldAddr none 4 (.t 75)),
gT 77 67 (.load none (.t 76)),
gT 78 67 (.bin .lss (.t 77) (cI 0)),
oP 79 (.pick (.t 67) (.t 78) (.c (.bool false)))] [0,7,8,79] [[],[0],[0,1],[0,1,2],[0,1,2,3],[0,1,2,3,4],[0,1,2,3],[0,1,2,3,4,5,6],[0,1,2,3,4,5,6,7],[0,1,2,3,4,5,6,7,8],[0,1,2,3,4,5,6,7,8,9],[0,1,2,3,4,5,6,7,8,9,10],[0,1,2,3,4,5,6,7,8,9,10,11],[0,1,2,3,4,5,6,7,8,9,10,11,12],[0,1,2,3,4,5,6,7,8,9,10,11,12,13],[0,1,2,3,4,5,6,7,8,9],[0,1,2,3,4,5,6,7,8,9,15],[0,1,2,3,4,5,6,7,8,9,10,11,12,13,14,15,16],[0,1,2,3,4,5,6,7,8,9,10,11,12,13,14,15,16,17],[0,1,2,3,4,5,6,7,8,9,10,11,12,13,14,15,16,17,18],[0,1,2,3,4,5,6,7,8,9,10,11,12,13,14,15,16,17,18,19],[0,1,2,3,4,5,6,7,8,9,10,11,12,13,14,15,16,17,18,19,20]])
(.cond (.t 79)
(.dreg [mV 80 0,
oP 81 (.nilchk (.t 80)),
oP 82 (.fieldAddr (some 10) 36 (.t 81)),
oP 83 (.fieldAddr none 8 (.t 82)),
oP 84 (.load none (.t 83)),
oP 85 (.fieldAddr none 4 (.t 7)),
oP 86 (.load none (.t 85)),
mV 87 8,
oP 88 (.ixS 5 (.t 84) (.t 86)),
oP 89 (.fieldAddr none 4 (.t 88)),
oN (.store 1 (.t 89) (.t 87))] [0,8] [[],[0],[0,1],[0,1,2],[0,1,2,3],[],[5],[],[0,1,2,3,4,5,6,7],[0,1,2,3,4,5,6,7,8],[0,1,2,3,4,5,6,7,8,9]])
.skip))
(.gG 0 44 5 (.seq (.reg [mV 91 0,
oP 92 (.call (.f 132) [false] [(.t 91)]),
oP 93 (.call (.f 56) [true] [(.t 92)]),
mV 90 93,
oP 94 (.extract (.t 90) 0),
oP 95 (.extract (.t 90) 1),
oP 96 (.extract (.t 90) 2),
mV 9 94,
mV 10 95,
mV 11 96] [8,11])
(.seq (.reg [mV 97 11,
oP 98 (.lit 0 1 1 [(0,(.t 97))]),
oP 99 (.call (.f 36) [true] [(.t 98)])] [8])
(.seq (.reg [mV 100 8,
oP 101 (.lit 0 1 1 [(0,(.t 100))]),
oP 6 (.mvd (.t 101))] [6])
.ret)))))))))
abbrev JR:RsT:=[(6,none)]
theorem ahh:an Tryz.prog Tryz.f69 102 KW JR = true:=by kernel_rfl
theorem ae5:af Tryz.prog ahZ = true:=by kernel_rfl
theorem ajt:ag Tryz.prog ⟨69,102,KW,JR,0⟩:=⟨fun _=>⟨ae5,_,Tryz.func69,ahh⟩,fun h=>by cases h⟩
abbrev afP:FuncId:=70
def JL:AC:=
(.seq (.reg [oP 6 (.mv (.c (.slice 1 [])))] [0,1,2])
(.seq (.dreg [mV 11 0,
oP 12 (.nilchk (.t 11)),
oP 13 (.fieldAddr (some 36) 0 (.t 12)),
oP 14 (.fieldAddr (some 5) 28 (.t 13)),
oP 15 (.fieldAddr none 0 (.t 14)),
oP 16 (.load none (.t 15)),
mV 17 1,
oP 18 (.ixS 1 (.t 17) (cI 0)),
oP 19 (.load none (.t 18)),
oP 20 (.call (.f 128) [true,false,false] [(.t 16),(.t 19),(.f 129)]),
mV 21 0,
oP 22 (.nilchk (.t 21)),
oP 23 (.fieldAddr (some 36) 0 (.t 22)),
oP 24 (.fieldAddr (some 5) 28 (.t 23)),
oP 25 (.fieldAddr none 1 (.t 24)),
oP 26 (.load none (.t 25)),
mV 27 1,
oP 28 (.ixS 1 (.t 27) (cI 1)),
oP 29 (.load none (.t 28)),
oP 30 (.call (.f 128) [true,false,false] [(.t 26),(.t 29),(.f 129)]),
mV 31 2,
oP 32 (.ixS 1 (.t 31) (cI 0)),
oP 33 (.load none (.t 32)),
mV 34 2,
oP 35 (.ixS 1 (.t 34) (cI 1)),
oP 36 (.load none (.t 35)),
oP 37 (.build [.int .i64 0, .int .i64 0] [(0,1,(.t 33)),(1,1,(.t 36))]),
oP 38 (.build [.int .i64 0, .int .i64 0, .int .i64 0, .int .i64 0] [(0,1,(.t 20)),(1,1,(.t 30)),(2,2,(.t 37))]),
oP 7 (.alloc [.int .i64 0, .int .i64 0, .int .i64 0, .int .i64 0]),
oN (.store 4 (.t 7) (.t 38))] [0,7] [[],[0],[0,1],[0,1,2],[0,1,2,3],[0,1,2,3,4],[],[6],[6,7],[0,1,2,3,4,5,6,7,8],[],[10],[10,11],[10,11,12],[10,11,12,13],[10,11,12,13,14],[],[16],[16,17],[0,1,2,3,4,5,6,7,8,9,10,11,12,13,14,15,16,17,18],[],[20],[20,21],[],[23],[23,24],[20,21,22,23,24,25],[0,1,2,3,4,5,6,7,8,9,10,11,12,13,14,15,16,17,18,19,20,21,22,23,24,25,26],[],[0,1,2,3,4,5,6,7,8,9,10,11,12,13,14,15,16,17,18,19,20,21,22,23,24,25,26,27,28]])
(.seq (.creg [mV 39 0,
mV 40 0,
oP 41 (.nilchk (.t 40)),
oP 42 (.fieldAddr (some 10) 36 (.t 41)),
oP 43 (.fieldAddr none 9 (.t 42)),
oP 44 (.load none (.t 43)),
oP 45 (.call (.f 133) [true] [(.t 44)]),
oP 46 (.load (some 4) (.t 7)),
oP 47 (.lit 0 4 1 [(0,(.t 46))]),
oP 48 (.append 4 32 (.t 45) (.t 47)),
oP 49 (.nilchk (.t 39)),
oP 50 (.fieldAddr (some 10) 36 (.t 49)),
oP 51 (.fieldAddr none 9 (.t 50)),
oN (.store 1 (.t 51) (.t 48))] [0] [[],[],[1],[1,2],[1,2,3],[1,2,3,4],[1,2,3,4,5],[],[7],[1,2,3,4,5,6,7,8],[0,1,2,3,4,5,6,7,8,9],[0,1,2,3,4,5,6,7,8,9,10],[0,1,2,3,4,5,6,7,8,9,10,11],[0,1,2,3,4,5,6,7,8,9,10,11,12]] [([0,1,2,3,4,5,7,8],6),([],9),([10,11,12],13)] [])
(.gG 0 45 4 (.seq (.reg [mV 53 0,
oP 54 (.call (.f 132) [false] [(.t 53)]),
oP 55 (.call (.f 56) [true] [(.t 54)]),
mV 52 55,
oP 56 (.extract (.t 52) 0),
oP 57 (.extract (.t 52) 1),
oP 58 (.extract (.t 52) 2),
mV 8 56,
mV 9 57,
mV 10 58] [10])
(.seq (.reg [mV 59 10,
oP 60 (.lit 0 1 1 [(0,(.t 59))]),
oP 61 (.call (.f 36) [true] [(.t 60)])] [])
(.seq (.reg [oP 6 (.mv (.c (.slice 1 [])))] [6])
.ret)))))))
abbrev MQ:RsT:=[(6,none)]
theorem ajg:an Tryz.prog Tryz.f70 62 JL MQ = true:=by kernel_rfl
theorem afA:af Tryz.prog afP = true:=by kernel_rfl
theorem agk:ag Tryz.prog ⟨70,62,JL,MQ,0⟩:=⟨fun _=>⟨afA,_,Tryz.func70,ajg⟩,fun h=>by cases h⟩
abbrev agI:FuncId:=71
def LV:AC:=
(.seq (.reg [oP 6 (.mv (.c (.slice 1 [])))] [0])
(.seq (.dreg [mV 10 0,
oP 11 (.nilchk (.t 10)),
oP 12 (.fieldAddr (some 36) 0 (.t 11)),
oP 13 (.fieldAddr (some 2) 20 (.t 12)),
oP 14 (.load (some 2) (.t 13)),
mV 15 0,
oP 16 (.nilchk (.t 15)),
oP 17 (.fieldAddr (some 10) 36 (.t 16)),
oP 18 (.fieldAddr none 4 (.t 17)),
oP 19 (.load none (.t 18)),
mV 20 0,
oP 21 (.nilchk (.t 20)),
oP 22 (.fieldAddr (some 10) 36 (.t 21)),
oP 23 (.fieldAddr none 5 (.t 22)),
oP 24 (.load none (.t 23)),
oP 25 (.call (.f 90) [true,true,true] [(.t 14),(.t 19),(.t 24)]),
mV 9 25,
oP 26 (.extract (.t 9) 0),
oP 27 (.extract (.t 9) 1),
oP 7 (.alloc [.slice 1 [], .slice 1 []]),
oN (.store 2 (.t 7) (.t 26)),
mV 8 27] [7,8] [[],[0],[0,1],[0,1,2],[0,1,2,3],[],[5],[5,6],[5,6,7],[5,6,7,8],[],[10],[10,11],[10,11,12],[10,11,12,13],[0,1,2,3,4,5,6,7,8,9,10,11,12,13,14],[0,1,2,3,4,5,6,7,8,9,10,11,12,13,14,15],[0,1,2,3,4,5,6,7,8,9,10,11,12,13,14,15,16],[0,1,2,3,4,5,6,7,8,9,10,11,12,13,14,15,16],[],[0,1,2,3,4,5,6,7,8,9,10,11,12,13,14,15,16,17,19],[0,1,2,3,4,5,6,7,8,9,10,11,12,13,14,15,16,17,18,19,20]])
(.seq (.reg [mV 28 8,
oP 29 (.lit 0 1 1 [(0,(.t 28))]),
oP 30 (.call (.f 36) [true] [(.t 29)])] [7])
(.seq (.reg [oP 31 (.fieldAddr none 0 (.t 7)),
oP 32 (.load none (.t 31)),
oP 6 (.mvd (.t 32))] [6])
.ret))))
abbrev Ks:RsT:=[(6,none)]
theorem ahJ:an Tryz.prog Tryz.f71 33 LV Ks = true:=by kernel_rfl
theorem afr:af Tryz.prog agI = true:=by kernel_rfl
theorem ajr:ag Tryz.prog ⟨71,33,LV,Ks,0⟩:=⟨fun _=>⟨afr,_,Tryz.func71,ahJ⟩,fun h=>by cases h⟩
abbrev aiZ:FuncId:=72
def M8:AC:=
(.seq (.reg [oP 6 (.mv (.c (.slice 1 [])))] [0,2])
(.seq (.dreg [mV 10 0,
oP 11 (.nilchk (.t 10)),
oP 12 (.fieldAddr (some 36) 0 (.t 11)),
oP 13 (.fieldAddr (some 9) 11 (.t 12)),
oP 14 (.load (some 9) (.t 13)),
mV 15 0,
oP 16 (.nilchk (.t 15)),
oP 17 (.fieldAddr (some 10) 36 (.t 16)),
oP 18 (.fieldAddr none 6 (.t 17)),
oP 19 (.load none (.t 18)),
mV 20 2,
oP 21 (.ixS 1 (.t 20) (cI 0)),
oP 22 (.load none (.t 21)),
oP 23 (.call (.f 126) [true,true,false] [(.t 14),(.t 19),(.t 22)]),
mV 9 23,
oP 24 (.extract (.t 9) 0),
oP 25 (.extract (.t 9) 1),
mV 7 24,
mV 8 25] [7,8] [[],[0],[0,1],[0,1,2],[0,1,2,3],[],[5],[5,6],[5,6,7],[5,6,7,8],[],[10],[10,11],[0,1,2,3,4,5,6,7,8,9,10,11,12],[0,1,2,3,4,5,6,7,8,9,10,11,12,13],[0,1,2,3,4,5,6,7,8,9,10,11,12,13,14],[0,1,2,3,4,5,6,7,8,9,10,11,12,13,14],[0,1,2,3,4,5,6,7,8,9,10,11,12,13,14,15],[0,1,2,3,4,5,6,7,8,9,10,11,12,13,14,15,16,17]])
(.seq (.reg [mV 26 8,
oP 27 (.lit 0 1 1 [(0,(.t 26))]),
oP 28 (.call (.f 36) [true] [(.t 27)])] [7])
(.seq (.reg [mV 29 7,
oP 30 (.lit 0 1 1 [(0,(.t 29))]),
oP 6 (.mvd (.t 30))] [6])
.ret))))
abbrev Ls:RsT:=[(6,none)]
theorem aib:an Tryz.prog Tryz.f72 31 M8 Ls = true:=by kernel_rfl
theorem ahn:af Tryz.prog aiZ = true:=by kernel_rfl
theorem afK:ag Tryz.prog ⟨72,31,M8,Ls,0⟩:=⟨fun _=>⟨ahn,_,Tryz.func72,aib⟩,fun h=>by cases h⟩
abbrev afQ:FuncId:=73
def M0:AC:=
(.seq (.reg [oP 6 (.mv (.c (.slice 1 [])))] [0])
(.seq (.qreg [mV 10 0,
oP 11 (.call (.f 55) [false] [(.t 10)]),
mV 12 0,
oP 13 (.nilchk (.t 12)),
oP 14 (.fieldAddr (some 10) 36 (.t 13)),
oP 15 (.fieldAddr none 7 (.t 14)),
oP 16 (.load none (.t 15)),
oP 17 (.call (.f 134) [true,true] [(.t 11),(.t 16)]),
mV 9 17,
oP 18 (.extract (.t 9) 0),
oP 19 (.extract (.t 9) 1),
mV 7 18,
mV 8 19] [7,8] [[],[0],[],[2],[2,3],[2,3,4],[2,3,4,5],[0,1,2,3,4,5,6],[0,1,2,3,4,5,6,7],[0,1,2,3,4,5,6,7,8],[0,1,2,3,4,5,6,7,8],[0,1,2,3,4,5,6,7,8,9],[0,1,2,3,4,5,6,7,8,9,10,11]] [([0,2,3,4,5,6],1),([],7)] [8,9,10,11,12])
(.seq (.reg [mV 20 8,
oP 21 (.lit 0 1 1 [(0,(.t 20))]),
oP 22 (.call (.f 36) [true] [(.t 21)])] [7])
(.seq (.reg [mV 23 7,
oP 6 (.mvd (.t 23))] [6])
.ret))))
abbrev LD:RsT:=[(6,none)]
theorem ahs:an Tryz.prog Tryz.f73 24 M0 LD = true:=by kernel_rfl
theorem afx:af Tryz.prog afQ = true:=by kernel_rfl
theorem ajd:ag Tryz.prog ⟨73,24,M0,LD,0⟩:=⟨fun _=>⟨afx,_,Tryz.func73,ahs⟩,fun h=>by cases h⟩
abbrev aih:FuncId:=74
def MY:AC:=
(.seq (.reg [oP 6 (.mv (.c (.slice 1 [])))] [0])
(.seq (.reg [mV 8 0,
oP 9 (.call (.f 49) [false] [(.t 8)]),
oP 7 (.alloc [.int .i64 0, .int .i64 0, .int .i64 0, .int .i64 0, .int .i64 0, .int .i64 0, .int .i64 0, .int .i64 0, .int .i64 0, .int .i64 0, .int .i64 0, .int .i64 0]),
oN (.store 12 (.t 7) (.t 9))] [7])
(.frz 7 true (.seq (.creg [oP 10 (.subA 6 1002 (.t 7)),
oP 11 (.call (.f 115) [true] [(.t 10)]),
oP 12 (.ixA 6 2 (some 2) (.t 7) (cI 0)),
oP 13 (.load (some 2) (.t 12)),
oP 14 (.lit 0 2 1 [(0,(.t 13))]),
oP 15 (.call (.f 115) [true] [(.t 14)]),
oP 16 (.append 1 8 (.t 11) (.t 15)),
oP 6 (.mvd (.t 16))] [6] [[],[0],[],[2],[2,3],[0,1,2,3,4],[0,1,2,3,4,5],[0,1,2,3,4,5,6]] [([2,3,4],0),([],1),([],5),([],6),([],7)] [])
.ret))))
abbrev MS:RsT:=[(6,none)]
theorem aj4:an Tryz.prog Tryz.f74 17 MY MS = true:=by kernel_rfl
theorem aiv:af Tryz.prog aih = true:=by kernel_rfl
theorem agM:ag Tryz.prog ⟨74,17,MY,MS,0⟩:=⟨fun _=>⟨aiv,_,Tryz.func74,aj4⟩,fun h=>by cases h⟩
abbrev agx:FuncId:=75
def Mu:AC:=
(.seq (.reg [oP 6 (.mv (.c (.slice 1 [])))] [0])
(.seq (.reg [mV 10 0,
oP 11 (.call (.f 132) [false] [(.t 10)]),
oP 12 (.call (.f 135) [true] [(.t 11)]),
mV 9 12,
oP 13 (.extract (.t 9) 0),
oP 14 (.extract (.t 9) 1),
mV 7 13,
mV 8 14] [7,8])
(.seq (.reg [mV 15 8,
oP 16 (.lit 0 1 1 [(0,(.t 15))]),
oP 17 (.call (.f 36) [true] [(.t 16)])] [7])
(.seq (.reg [mV 18 7,
oP 6 (.mvd (.t 18))] [6])
.ret))))
abbrev Lt:RsT:=[(6,none)]
theorem aiA:an Tryz.prog Tryz.f75 19 Mu Lt = true:=by kernel_rfl
theorem aiu:af Tryz.prog agx = true:=by kernel_rfl
theorem afn:ag Tryz.prog ⟨75,19,Mu,Lt,0⟩:=⟨fun _=>⟨aiu,_,Tryz.func75,aiA⟩,fun h=>by cases h⟩
abbrev agr:FuncId:=76
def KV:AC:=
(.seq (.reg [oP 6 (.mv (.c (.slice 1 [])))] [0])
(.seq (.reg [mV 10 0,
oP 11 (.nilchk (.t 10)),
oP 12 (.fieldAddr (some 36) 0 (.t 11)),
oP 13 (.fieldAddr (some 3) 33 (.t 12)),
oP 14 (.load (some 3) (.t 13)),
oP 15 (.call (.f 136) [true] [(.t 14)]),
mV 9 15,
oP 16 (.extract (.t 9) 0),
oP 17 (.extract (.t 9) 1),
mV 7 16,
mV 8 17] [7,8])
(.seq (.reg [mV 18 8,
oP 19 (.lit 0 1 1 [(0,(.t 18))]),
oP 20 (.call (.f 36) [true] [(.t 19)])] [7])
(.seq (.reg [mV 21 7,
oP 22 (.call (.f 115) [true] [(.t 21)]),
oP 6 (.mvd (.t 22))] [6])
.ret))))
abbrev ML:RsT:=[(6,none)]
theorem ahG:an Tryz.prog Tryz.f76 23 KV ML = true:=by kernel_rfl
theorem ahc:af Tryz.prog agr = true:=by kernel_rfl
theorem ajK:ag Tryz.prog ⟨76,23,KV,ML,0⟩:=⟨fun _=>⟨ahc,_,Tryz.func76,ahG⟩,fun h=>by cases h⟩
abbrev agm:FuncId:=78
def M3:AC:=
(.seq (.reg [oP 4 (.mv (.c (.bool false)))] [0,1])
(.seq (.reg [mV 5 0,
oP 6 (.lenStr (.t 5)),
mV 7 1,
oP 8 (.lenStr (.t 7)),
oP 9 (.bin .geq (.t 6) (.t 8)),
mV 10 9,
gT 11 10 (.mv (.t 0)),
gT 12 10 (.mv (.t 0)),
gT 13 10 (.lenStr (.t 12)),
gT 14 10 (.mv (.t 1)),
gT 15 10 (.lenStr (.t 14)),
gT 16 10 (.bin .sub (.t 13) (.t 15)),
gT 17 10 (.subStr (.t 11) (some (.t 16)) none),
gT 18 10 (.mv (.t 1)),
gT 19 10 (.bin .eql (.t 17) (.t 18)),
oP 20 (.pick (.t 10) (.t 19) (.c (.bool false))),
mV 4 20] [4])
.ret))
abbrev Ld:RsT:=[(4,none)]
theorem ai9:an Tryz.prog Tryz.f78 21 M3 Ld = true:=by kernel_rfl
theorem ais:af Tryz.prog agm = true:=by kernel_rfl
theorem ajA:ag Tryz.prog ⟨78,21,M3,Ld,0⟩:=⟨fun _=>⟨ais,_,Tryz.func78,ai9⟩,fun h=>by cases h⟩
abbrev ahp:FuncId:=79
def Mt:AC:=
(.seq (.reg [oP 4 (.mv (.c (.bool false)))] [0,1])
(.seq (.reg [mV 5 0,
mV 6 1,
oP 7 (.call (.f 138) [true,false] [(.t 5),(.t 6)]),
oP 8 (.bin .geq (.t 7) (cI 0)),
mV 4 8] [4])
.ret))
abbrev LL:RsT:=[(4,none)]
theorem ahV:an Tryz.prog Tryz.f79 9 Mt LL = true:=by kernel_rfl
theorem ahI:af Tryz.prog ahp = true:=by kernel_rfl
theorem ahY:ag Tryz.prog ⟨79,9,Mt,LL,0⟩:=⟨fun _=>⟨ahI,_,Tryz.func79,ahV⟩,fun h=>by cases h⟩
abbrev aj6:FuncId:=80
def JS:AC:=
(.seq (.reg [oP 2 (.pbox 2 (.t 0)),
oP 4 (.alloc [.slice 7 []]),
oP 5 (.mv (cI 0)),
oP 6 (.mv (cI 0)),
oP 7 (.mv (cI 0))] [1,2,4])
(.seq (.reg [oP 17 (.fieldAddr (some 1) 0 (.t 2)),
oP 18 (.load (some 1) (.t 17)),
oP 19 (.build [.slice 7 []] [(0,1,(.t 18))]),
oP 8 (.alloc [.slice 7 []]),
oN (.store 1 (.t 8) (.t 19))] [1,2,4,8])
(.seq (.seq (.reg [oP 20 (.fieldAddr (some 1) 0 (.t 8)),
oP 21 (.fieldAddr none 0 (.t 20)),
oP 22 (.load none (.t 21)),
oP 23 (.len (.t 22)),
oP 24 (.bin .gtr (.t 23) (cI 12))] [1,2,4,8,24])
(.cond (.t 24)
(.seq (.reg [oP 25 (.loadd (some 1) (.t 4)),
oN (.store 1 (.t 4) (.t 25)),
oP 5 (.mv (cI 1)),
oP 6 (.mv (cI 0)),
oP 7 (.mv (cI 3))] [4,5,6,7])
.ret)
.skip))
(.seq (.seq (.reg [oP 26 (.fieldAddr (some 1) 0 (.t 8)),
oP 27 (.fieldAddr none 0 (.t 26)),
oP 28 (.load none (.t 27)),
oP 29 (.len (.t 28)),
oP 30 (.mv (cI 0))] [1,2,4,8,28,29,30])
(.block 0
(.loop [1,2,4,8,28,29,30]
(.seq (.reg [oP 31 (.bin .lss (.t 30) (.t 29))] [1,2,4,8,28,29,30,31])
(.seq (.cond (.t 31)
.skip
(.exit 0))
(.seq (.block 1
(.seq (.reg [mV 32 30,
oP 33 (.ixS 7 (.t 28) (.t 30)),
oP 34 (.load (some 7) (.t 33)),
oP 10 (.alloc [.str ByteArray.empty, .int .i64 0, .int .i64 0, .int .i64 0, .slice 1 [], .int .i64 0, .int .i64 0]),
mV 9 32,
oN (.store 7 (.t 10) (.t 34))] [1,2,4,8,9,10,28,29,30])
(.frz 10 true (.seq (.reg [oP 35 (.load (some 7) (.t 10)),
mV 36 9,
oP 37 (.call (.f 139) [true,true,false,true] [(.t 8),(.t 35),(.t 36),(.c (.slice 7 []))]),
mV 7 37] [1,2,4,7,8,9,28,29,30])
(.seq (.reg [mV 38 7,
oP 39 (.bin .neq (.t 38) (cI 0))] [1,2,4,7,8,9,28,29,30,39])
(.cond (.t 39)
(.seq (.reg [oP 40 (.loadd (some 1) (.t 4)),
mV 41 9,
mV 42 7,
oN (.store 1 (.t 4) (.t 40)),
oP 5 (.mv (cI 1)),
mV 6 41,
mV 7 42] [4,5,6,7])
.ret)
.skip))))))
(.reg [oP 43 (.bin .add (.t 30) (cI 1)),
mV 30 43] [1,2,4,8,28,29,30])))))))
(.seq (.seq (.reg [oP 44 (.fieldAddr none 1 (.t 2)),
oP 45 (.load none (.t 44)),
oP 46 (.len (.t 45)),
oP 47 (.bin .gtr (.t 46) (cI 8))] [1,2,4,8,47])
(.cond (.t 47)
(.seq (.reg [oP 48 (.loadd (some 1) (.t 4)),
oN (.store 1 (.t 4) (.t 48)),
oP 5 (.mv (cI 2)),
oP 6 (.mv (cI 0)),
oP 7 (.mv (cI 3))] [4,5,6,7])
.ret)
.skip))
(.seq (.reg [oP 49 (.call (.f 140) [] []),
oP 11 (.mv (cI 0)),
mV 12 49] [1,2,4,8,11,12])
(.seq (.reg [oP 50 (.loadd (some 1) (.t 8)),
oN (.store 1 (.t 4) (.t 50))] [1,2,4,8,11,12])
(.seq (.seq (.reg [oP 51 (.fieldAddr none 1 (.t 2)),
oP 52 (.load none (.t 51)),
oP 53 (.len (.t 52)),
oP 54 (.mv (cI 0))] [1,4,8,11,12,52,53,54])
(.block 2
(.loop [1,4,8,11,12,52,53,54]
(.seq (.reg [oP 55 (.bin .lss (.t 54) (.t 53))] [1,4,8,11,12,52,53,54,55])
(.seq (.cond (.t 55)
.skip
(.exit 2))
(.seq (.block 3
(.seq (.reg [mV 56 54,
oP 57 (.ixS 10 (.t 52) (.t 54)),
oP 58 (.load (some 10) (.t 57)),
oP 14 (.alloc [.int .i64 0, .int .i64 0, .str ByteArray.empty, .str ByteArray.empty, .int .i64 0, .int .i64 0, .int .i64 0, .slice 1 [], .int .i64 0, .int .i64 0]),
mV 13 56,
oN (.store 10 (.t 14) (.t 58))] [1,4,8,11,12,13,14,52,53,54])
(.frz 14 true (.seq (.reg [mV 60 12,
oP 61 (.fieldAddr none 0 (.t 14)),
oP 62 (.load none (.t 61)),
oP 63 (.mget true .i (.agg [.nilfunc, .nilfunc]) (.t 60) (.t 62)),
mV 59 63,
oP 64 (.extract (.t 59) 0),
oP 65 (.extract (.t 59) 1),
oP 15 (.alloc [.nilfunc, .nilfunc]),
oN (.store 2 (.t 15) (.t 64)),
mV 16 65] [1,4,8,11,12,13,14,15,16,52,53,54])
(.frz 15 true (.seq (.block 4
(.seq (.reg [mV 67 11,
oP 68 (.fieldAddr none 1 (.t 14)),
oP 69 (.load none (.t 68)),
oP 70 (.lit 0 1 1 [(0,(.t 69))]),
oP 71 (.call (.f 141) [false,false,true] [(.t 67),(cI 40000),(.t 70)]),
mV 66 71] [1,4,8,12,13,14,15,16,52,53,54,66])
(.cond (.t 66)
(.seq (.reg [oP 72 (.loadd (some 1) (.t 4)),
mV 73 13,
oN (.store 1 (.t 4) (.t 72)),
oP 5 (.mv (cI 2)),
mV 6 73,
oP 7 (.mv (cI 7))] [4,5,6,7])
.ret)
(.seq (.reg [mV 75 16,
oP 76 (.un .not (.t 75)),
mV 77 76,
gF 78 77 (.fieldAddr none 0 (.t 15)),
gF 79 77 (.load none (.t 78)),
gF 80 77 (.load (some 10) (.t 14)),
gF 81 77 (.call (.t 79) [true] [(.t 80)]),
gF 82 77 (.un .not (.t 81)),
oP 83 (.pick (.t 77) (.c (.bool true)) (.t 82)),
mV 74 83] [1,4,8,12,13,14,15,52,53,54,74])
(.cond (.t 74)
(.seq (.reg [oP 84 (.loadd (some 1) (.t 4)),
mV 85 13,
oN (.store 1 (.t 4) (.t 84)),
oP 5 (.mv (cI 2)),
mV 6 85,
oP 7 (.mv (cI 6))] [4,5,6,7])
.ret)
.skip)))))
(.seq (.seq (.reg [oP 86 (.fieldAddr none 1 (.t 15)),
oP 87 (.load none (.t 86)),
oP 88 (.load (some 10) (.t 14)),
oP 89 (.call (.t 87) [false,true] [(.t 8),(.t 88)]),
mV 7 89] [1,4,7,8,12,13,14,52,53,54])
(.seq (.reg [mV 90 7,
oP 91 (.bin .neq (.t 90) (cI 0))] [1,4,7,8,12,13,14,52,53,54,91])
(.cond (.t 91)
(.seq (.reg [oP 92 (.loadd (some 1) (.t 4)),
mV 93 13,
mV 94 7,
oN (.store 1 (.t 4) (.t 92)),
oP 5 (.mv (cI 2)),
mV 6 93,
mV 7 94] [4,5,6,7])
.ret)
.skip)))
(.seq (.reg [oP 95 (.fieldAddr none 1 (.t 14)),
oP 96 (.load none (.t 95)),
mV 11 96] [1,4,8,11,12,52,53,54])
(.seq (.reg [mV 97 11,
mV 98 1,
oP 99 (.bin .leq (.t 97) (.t 98))] [1,4,8,11,12,52,53,54,99])
(.cond (.t 99)
(.reg [oP 100 (.loadd (some 1) (.t 8)),
oN (.store 1 (.t 4) (.t 100))] [1,4,8,11,12,52,53,54])
.skip))))))))))
(.reg [oP 101 (.bin .add (.t 54) (cI 1)),
mV 54 101] [1,4,8,11,12,52,53,54])))))))
(.seq (.reg [oP 102 (.loadd (some 1) (.t 4)),
oN (.store 1 (.t 4) (.t 102)),
oP 5 (.mv (cI 0)),
oP 6 (.mv (cI 0)),
oP 7 (.mv (cI 0))] [4,5,6,7])
.ret)))))))))
abbrev Mf:RsT:=[(4,some (some 1)),(5,none),(6,none),(7,none)]
theorem agL:an Tryz.prog Tryz.f80 103 JS Mf = true:=by kernel_rfl
theorem ajM:af Tryz.prog aj6 = true:=by kernel_rfl
theorem afG:ag Tryz.prog ⟨80,103,JS,Mf,0⟩:=⟨fun _=>⟨ajM,_,Tryz.func80,agL⟩,fun h=>by cases h⟩
abbrev afk:FuncId:=81
def J8:AC:=
(.seq (.reg [oP 2 (.mv (cI 0))] [0])
(.seq (.block 0
(.seq (.reg [mV 4 0,
oP 5 (.call (.f 142) [true,false] [(.t 4),(.f 143)]),
mV 3 5] [0,3])
(.cond (.t 3)
(.seq (.reg [oP 2 (.mv (cI 7))] [2])
.ret)
(.seq (.reg [mV 7 0,
oP 8 (.call (.f 142) [true,false] [(.t 7),(.f 144)]),
mV 6 8] [6])
(.cond (.t 6)
(.seq (.reg [oP 2 (.mv (cI 2))] [2])
.ret)
.skip)))))
(.seq (.reg [oP 2 (.mv (cI 0))] [2])
.ret)))
abbrev J4:RsT:=[(2,none)]
theorem ag0:an Tryz.prog Tryz.f81 9 J8 J4 = true:=by kernel_rfl
theorem afL:af Tryz.prog afk = true:=by kernel_rfl
theorem afV:ag Tryz.prog ⟨81,9,J8,J4,0⟩:=⟨fun _=>⟨afL,_,Tryz.func81,ag0⟩,fun h=>by cases h⟩
abbrev ahQ:FuncId:=82
def Kk:AC:=
(.seq (.reg [oP 2 (.alloc [.int .i64 0, .int .i64 0])] [0,2])
(.seq (.reg [mV 3 0,
mV 4 0,
oP 5 (.build [.int .i64 0, .int .i64 0] [(0,1,(.t 3)),(1,1,(.t 4))]),
oN (.store 2 (.t 2) (.t 5))] [2])
.ret))
abbrev LR:RsT:=[(2,some (some 2))]
theorem aiH:an Tryz.prog Tryz.f82 6 Kk LR = true:=by kernel_rfl
theorem ahe:af Tryz.prog ahQ = true:=by kernel_rfl
theorem agh:ag Tryz.prog ⟨82,6,Kk,LR,0⟩:=⟨fun _=>⟨ahe,_,Tryz.func82,aiH⟩,fun h=>by cases h⟩
abbrev ajq:FuncId:=83
def Lv:AC:=
(.seq (.reg [oP 3 (.pbox 1 (.t 0)),
oP 4 (.pbox 1 (.t 1)),
oP 6 (.mv (.c (.bool false)))] [2,3,4])
(.seq (.reg [mV 7 2,
oP 8 (.mkfunc (.func 146) [] [(.t 3),(.t 4)]),
oP 9 (.call (.f 145) [true,false] [(.t 7),(.t 8)]),
mV 6 9] [6])
.ret))
abbrev Kq:RsT:=[(6,none)]
theorem ahb:an Tryz.prog Tryz.f83 10 Lv Kq = true:=by kernel_rfl
theorem afO:af Tryz.prog ajq = true:=by kernel_rfl
theorem agC:ag Tryz.prog ⟨83,10,Lv,Kq,0⟩:=⟨fun _=>⟨afO,_,Tryz.func83,ahb⟩,fun h=>by cases h⟩
abbrev ahN:FuncId:=84
def Kt:AC:=
(.seq (.reg [oP 3 (.pbox 1 (.t 1)),
oP 4 (.mv (cI 0))] [0,3])
(.seq (.reg [mV 7 0,
oP 8 (.len (.t 7)),
oP 9 (.bin .sub (.t 8) (cI 1)),
mV 5 9] [0,3,5])
(.seq (.dreg [oP 10 (.load none (.t 3)),
mV 11 0,
mV 12 5,
oP 13 (.ixS 2 (.t 11) (.t 12)),
oP 14 (.load (some 2) (.t 13)),
oP 15 (.call (.t 10) [false] [(.t 14)]),
oP 6 (.alloc [.str ByteArray.empty]),
oN (.store 1 (.t 6) (.t 15))] [0,3,5,6] [[],[],[],[1,2],[1,2,3],[0,1,2,3,4],[],[0,1,2,3,4,5,6]])
(.seq (.block 0
(.seq (.reg [oP 17 (.load none (.t 6)),
oP 18 (.call (.f 147) [false] [(.t 17)]),
oP 19 (.un .not (.t 18)),
mV 16 19] [0,3,5,6,16])
(.cond (.t 16)
(.seq (.reg [oP 4 (.mv (cI 6))] [4])
.ret)
(.seq (.reg [mV 21 0,
mV 22 5,
oP 23 (.subq 2 (.t 21) none (some (.t 22))),
oP 24 (.mkfunc (.func 149) [] [(.t 3),(.t 6)]),
oP 25 (.call (.f 148) [true,false] [(.t 23),(.t 24)]),
mV 20 25] [20])
(.cond (.t 20)
(.seq (.reg [oP 4 (.mv (cI 5))] [4])
.ret)
.skip)))))
(.seq (.reg [oP 4 (.mv (cI 0))] [4])
.ret)))))
abbrev Mv:RsT:=[(4,none)]
theorem ahH:an Tryz.prog Tryz.f84 26 Kt Mv = true:=by kernel_rfl
theorem akb:af Tryz.prog ahN = true:=by kernel_rfl
theorem agX:ag Tryz.prog ⟨84,26,Kt,Mv,0⟩:=⟨fun _=>⟨akb,_,Tryz.func84,ahH⟩,fun h=>by cases h⟩
abbrev afa:FuncId:=85
def MP:AC:=
(.seq (.reg [oP 1 (.pbox 2 (.t 0)),
⟨some 2,none, .mv (.c (.str ⟨#[]⟩))⟩] [1])
(.seq (.reg [oP 3 (.fieldAddr none 0 (.t 1)),
oP 4 (.load none (.t 3)),
mV 2 4] [2])
.ret))
abbrev LY:RsT:=[(2,none)]
theorem aie:an Tryz.prog Tryz.f85 5 MP LY = true:=by kernel_rfl
theorem agi:af Tryz.prog afa = true:=by kernel_rfl
theorem agZ:ag Tryz.prog ⟨85,5,MP,LY,0⟩:=⟨fun _=>⟨agi,_,Tryz.func85,aie⟩,fun h=>by cases h⟩
abbrev ac6:FuncId:=86
def Kh:AC:=
(.seq (.reg [mV 6 3,
oP 7 (.isnil true (.t 6))] [0,1,2,3,7])
(.cond (.t 7)
(.seq (.reg [mV 8 3,
oP 9 (.assert 180 (.t 8)),
oP 4 (.alloc [.int .i64 0, .int .i64 0, .int .i64 0]),
oN (.store 3 (.t 4) (.t 9))] [0,1,2,4])
(.frz 4 true (.dreg [oP 10 (.fieldAddr none 0 (.t 4)),
oP 11 (.load none (.t 10)),
oP 12 (.fieldAddr none 1 (.t 4)),
oP 13 (.load none (.t 12)),
oP 14 (.fieldAddr none 2 (.t 4)),
oP 15 (.load none (.t 14)),
oN (.store 1 (.t 0) (.t 11)),
oN (.store 1 (.t 1) (.t 13)),
oN (.store 1 (.t 2) (.t 15))] [] [[],[0],[],[2],[],[4],[0,1],[0,1,2,3,6],[0,1,2,3,4,5,6,7]])))
.skip))
theorem k6:lQ Tryz.prog Tryz.f86 16 5 3 Kh = true:=by kernel_rfl
theorem aiV {args:List aa} {σ:ab} {m:PM} {Q:PM → ab → Prop} (ha:args.length ≤ 16) (h:AW Tryz.prog 16 none Kh (jU (Q m.after)) { v:=(3,m.val) :: (5, .undef) :: bF args 0,ds:=[] } σ):eH Tryz.prog ac6 args σ m Q:=eH.pG Tryz.func86 k6 ha h
theorem afv:af Tryz.prog ac6 = true:=by kernel_rfl
theorem agd:tD Tryz.prog 86 16:=⟨afv,fun caps hl σ=>aiV hl (aE _ (by simp [Kh]))⟩
theorem agQ:ag Tryz.prog ⟨86,16, .skip,[],1⟩:=⟨fun h=>absurd rfl h,fun _=>agd⟩
abbrev agn:FuncId:=87
def LA:AC:=
(.seq (.reg [mV 6 2,
oP 7 (.bin .neq (.t 6) (cI 0))] [0,1,2,7])
(.cond (.t 7)
(.reg [mV 8 0,
mV 9 1,
mV 10 2,
oP 11 (.build [.int .i64 0, .int .i64 0, .int .i64 0] [(0,1,(.t 8)),(1,1,(.t 9)),(2,1,(.t 10))]),
oP 12 (.mkiface 180 (.t 11)),
oN (.panic (.t 12))] [])
.skip))
abbrev MR:RsT:=[]
theorem afW:an Tryz.prog Tryz.f87 13 LA MR = true:=by kernel_rfl
theorem ajf:af Tryz.prog agn = true:=by kernel_rfl
theorem ajv:ag Tryz.prog ⟨87,13,LA,MR,0⟩:=⟨fun _=>⟨ajf,_,Tryz.func87,afW⟩,fun h=>by cases h⟩
abbrev wC:FuncId:=88
def Mj:AC:=
(.seq (.reg [oP 1 (.pbox 3 (.t 0)),
oP 2 (.mv (cI 0)),
oP 3 (.mv (cI 0)),
oP 4 (.mv (cI 0))] [1])
(.seq (.block 0
(.seq (.reg [oP 8 (.fieldAddr none 0 (.t 1)),
oP 9 (.load none (.t 8)),
oP 10 (.len (.t 9)),
oP 11 (.lit 0 1 1 [(0,(.t 10))]),
oP 12 (.call (.f 150) [false,false,true] [(cI 1),(cI 10),(.t 11)]),
mV 7 12] [1,7])
(.cond (.t 7)
(.seq (.reg [oP 2 (.mv (cI 1)),
oP 3 (.mv (cI 0)),
oP 4 (.mv (cI 3))] [2,3,4])
.ret)
(.seq (.reg [oP 14 (.fieldAddr none 1 (.t 1)),
oP 15 (.load none (.t 14)),
oP 16 (.fieldAddr none 2 (.t 1)),
oP 17 (.load none (.t 16)),
oP 18 (.lit 0 1 2 [(0,(.t 15)),(1,(.t 17))]),
oP 19 (.call (.f 150) [false,false,true] [(cI 0),(cI 5000),(.t 18)]),
mV 13 19] [1,13])
(.cond (.t 13)
(.seq (.reg [oP 2 (.mv (cI 1)),
oP 3 (.mv (cI 0)),
oP 4 (.mv (cI 7))] [2,3,4])
.ret)
(.seq (.reg [oP 21 (.fieldAddr none 1 (.t 1)),
oP 22 (.load none (.t 21)),
oP 23 (.fieldAddr none 2 (.t 1)),
oP 24 (.load none (.t 23)),
oP 25 (.bin .geq (.t 22) (.t 24)),
mV 20 25] [1,20])
(.cond (.t 20)
(.seq (.reg [oP 2 (.mv (cI 1)),
oP 3 (.mv (cI 0)),
oP 4 (.mv (cI 2))] [2,3,4])
.ret)
.skip)))))))
(.seq (.seq (.reg [oP 26 (.fieldAddr none 0 (.t 1)),
oP 27 (.load none (.t 26)),
oP 28 (.len (.t 27)),
oP 29 (.mv (cI 0))] [1,27,28,29])
(.block 1
(.loop [1,27,28,29]
(.seq (.reg [oP 30 (.bin .lss (.t 29) (.t 28))] [1,27,28,29,30])
(.seq (.cond (.t 30)
.skip
(.exit 1))
(.seq (.block 2
(.seq (.reg [mV 31 29,
oP 32 (.ixS 7 (.t 27) (.t 29)),
oP 33 (.load (some 7) (.t 32)),
oP 6 (.alloc [.str ByteArray.empty, .int .i64 0, .int .i64 0, .int .i64 0, .int .i64 0, .int .i64 0, .int .i64 0]),
mV 5 31,
oN (.store 7 (.t 6) (.t 33))] [1,5,6,27,28,29])
(.frz 6 true (.seq (.block 3
(.seq (.reg [oP 35 (.fieldAddr none 0 (.t 6)),
oP 36 (.load none (.t 35)),
oP 37 (.call (.f 147) [false] [(.t 36)]),
oP 38 (.un .not (.t 37)),
mV 34 38] [1,5,6,27,28,29,34])
(.cond (.t 34)
(.seq (.reg [mV 39 5,
oP 2 (.mv (cI 2)),
mV 3 39,
oP 4 (.mv (cI 6))] [2,3,4])
.ret)
(.seq (.reg [oP 41 (.fieldAddr none 0 (.t 1)),
oP 42 (.load none (.t 41)),
mV 43 5,
oP 44 (.subq 7 (.t 42) none (some (.t 43))),
oP 45 (.mkfunc (.func 152) [] [(.t 6)]),
oP 46 (.call (.f 151) [true,false] [(.t 44),(.t 45)]),
mV 40 46] [1,5,6,27,28,29,40])
(.cond (.t 40)
(.seq (.reg [mV 47 5,
oP 2 (.mv (cI 2)),
mV 3 47,
oP 4 (.mv (cI 5))] [2,3,4])
.ret)
.skip)))))
(.seq (.reg [oP 48 (.load (some 7) (.t 6)),
oP 49 (.call (.f 153) [false] [(.t 48)]),
mV 4 49] [1,4,5,27,28,29])
(.seq (.reg [mV 50 4,
oP 51 (.bin .neq (.t 50) (cI 0))] [1,4,5,27,28,29,51])
(.cond (.t 51)
(.seq (.reg [mV 52 5,
mV 53 4,
oP 2 (.mv (cI 2)),
mV 3 52,
mV 4 53] [2,3,4])
.ret)
.skip)))))))
(.reg [oP 54 (.bin .add (.t 29) (cI 1)),
mV 29 54] [1,27,28,29])))))))
(.seq (.reg [oP 2 (.mv (cI 0)),
oP 3 (.mv (cI 0)),
oP 4 (.mv (cI 0))] [2,3,4])
.ret))))
abbrev M7:RsT:=[(2,none),(3,none),(4,none)]
theorem aia:an Tryz.prog Tryz.f88 55 Mj M7 = true:=by kernel_rfl
theorem agu:af Tryz.prog wC = true:=by kernel_rfl
theorem agt:ag Tryz.prog ⟨88,55,Mj,M7,0⟩:=⟨fun _=>⟨agu,_,Tryz.func88,aia⟩,fun h=>by cases h⟩
abbrev wT:FuncId:=89
def LP:AC:=
(.seq (.reg [oP 2 (.pbox 3 (.t 0)),
oP 3 (.pbox 2 (.t 1)),
oP 4 (.mv (cI 0)),
oP 5 (.mv (cI 0)),
oP 6 (.mv (cI 0))] [2,3])
(.seq (.seq (.reg [oP 8 (.load (some 3) (.t 2)),
oP 9 (.call (.f 88) [true] [(.t 8)]),
mV 7 9,
oP 10 (.extract (.t 7) 0),
oP 11 (.extract (.t 7) 1),
oP 12 (.extract (.t 7) 2),
mV 6 12] [2,3,6])
(.seq (.reg [mV 13 6,
oP 14 (.bin .eql (.t 13) (cI 0))] [2,3,6,14])
(.cond (.t 14)
(.reg [oP 15 (.load (some 2) (.t 3)),
oP 16 (.call (.f 154) [false] [(.t 15)]),
mV 6 16] [2,3,6])
.skip)))
(.seq (.seq (.reg [mV 17 6,
oP 18 (.bin .neq (.t 17) (cI 0))] [2,3,6,18])
(.cond (.t 18)
(.seq (.reg [mV 19 6,
oP 4 (.mv (cI 0)),
oP 5 (.mv (cI 0)),
mV 6 19] [4,5,6])
.ret)
.skip))
(.seq (.reg [oP 21 (.load (some 3) (.t 2)),
oP 22 (.build [.slice 7 [], .int .i64 0, .int .i64 0] [(0,3,(.t 21))]),
oP 23 (.load (some 2) (.t 3)),
oP 24 (.call (.f 155) [true,false] [(.t 22),(.t 23)]),
mV 20 24,
oP 25 (.extract (.t 20) 0),
oP 26 (.extract (.t 20) 1),
mV 4 25,
mV 5 26] [4,5])
(.seq (.reg [mV 27 4,
mV 28 5,
mV 4 27,
mV 5 28,
oP 6 (.mv (cI 0))] [4,5,6])
.ret)))))
abbrev M6:RsT:=[(4,none),(5,none),(6,none)]
theorem ait:an Tryz.prog Tryz.f89 29 LP M6 = true:=by kernel_rfl
theorem ag2:af Tryz.prog wT = true:=by kernel_rfl
theorem ai3:ag Tryz.prog ⟨89,29,LP,M6,0⟩:=⟨fun _=>⟨ag2,_,Tryz.func89,ait⟩,fun h=>by cases h⟩
abbrev qe:FuncId:=90
def LW:AC:=
(.seq (.reg [oP 3 (.pbox 2 (.t 0)),
oP 6 (.alloc [.slice 1 [], .slice 1 []]),
oP 7 (.mv (cI 0))] [1,2,3,6])
(.seq (.reg [oP 16 (.load (some 2) (.t 3)),
mV 17 1,
oP 18 (.call (.f 156) [true,true,true,false] [(.t 16),(.t 17),(.c (.slice 1 [])),(.c (.bool false))]),
mV 15 18,
oP 19 (.extract (.t 15) 0),
oP 20 (.extract (.t 15) 1),
mV 8 19,
mV 9 20] [2,6,8,9])
(.seq (.block 0
(.seq (.reg [mV 22 9,
oP 23 (.bin .neq (.t 22) (cI 0)),
mV 21 23] [2,6,8,9,21])
(.cond (.t 21)
(.seq (.reg [oP 24 (.build [.slice 1 [], .slice 1 []] []),
mV 25 9,
oN (.store 2 (.t 6) (.t 24)),
mV 7 25] [6,7])
.ret)
(.seq (.reg [mV 27 2,
oP 28 (.len (.t 27)),
oP 29 (.bin .gtr (.t 28) (cI 60)),
mV 26 29] [2,6,8,26])
(.cond (.t 26)
(.seq (.reg [oP 30 (.build [.slice 1 [], .slice 1 []] []),
oN (.store 2 (.t 6) (.t 30)),
oP 7 (.mv (cI 3))] [6,7])
.ret)
.skip)))))
(.seq (.reg [oP 10 (.alloc [.int .u64 0, .int .u64 0])] [2,6,8,10])
(.seq (.seq (.reg [mV 31 2,
oP 32 (.len (.t 31)),
oP 33 (.mv (cI 0))] [6,8,10,31,32,33])
(.block 1
(.loop [6,8,10,31,32,33]
(.seq (.reg [oP 34 (.bin .lss (.t 33) (.t 32))] [6,8,10,31,32,33,34])
(.seq (.cond (.t 34)
.skip
(.exit 1))
(.seq (.block 2
(.seq (.reg [oP 35 (.ixS 2 (.t 31) (.t 33)),
oP 36 (.load (some 2) (.t 35)),
oP 12 (.alloc [.int .i64 0, .bool false]),
oN (.store 2 (.t 12) (.t 36))] [6,8,10,12,31,32,33])
(.frz 12 true (.seq (.seq (.dreg [mV 37 8,
oP 38 (.nilchk (.t 37)),
oP 39 (.fieldAddr (some 2) 0 (.t 38)),
oP 40 (.fieldAddr none 0 (.t 39)),
oP 41 (.load none (.t 40)),
oP 42 (.len (.t 41)),
oP 43 (.fieldAddr none 0 (.t 12)),
oP 44 (.load none (.t 43)),
oP 45 (.lit 0 1 1 [(0,(.t 44))]),
oP 46 (.call (.f 157) [false,true] [(.t 42),(.t 45)])] [6,8,10,12,31,32,33,46] [[],[0],[0,1],[0,1,2],[0,1,2,3],[0,1,2,3,4],[],[6],[6,7],[0,1,2,3,4,5,6,7,8]])
(.cond (.t 46)
(.seq (.reg [oP 47 (.build [.slice 1 [], .slice 1 []] []),
oN (.store 2 (.t 6) (.t 47)),
oP 7 (.mv (cI 4))] [6,7])
.ret)
.skip))
(.seq (.reg [mV 49 8,
oP 50 (.load (some 2) (.t 10)),
oP 51 (.load (some 2) (.t 12)),
oP 52 (.call (.f 158) [false,false,false] [(.t 49),(.t 50),(.t 51)]),
mV 48 52,
oP 53 (.extract (.t 48) 0),
oP 54 (.extract (.t 48) 1),
oP 13 (.alloc [.int .u64 0, .int .u64 0]),
oN (.store 2 (.t 13) (.t 53)),
mV 14 54] [6,8,10,13,14,31,32,33])
(.frz 13 true (.seq (.seq (.reg [mV 55 14,
oP 56 (.un .not (.t 55))] [6,8,10,13,31,32,33,56])
(.cond (.t 56)
(.seq (.reg [oP 57 (.build [.slice 1 [], .slice 1 []] []),
oN (.store 2 (.t 6) (.t 57)),
oP 7 (.mv (cI 2))] [6,7])
.ret)
.skip))
(.reg [oP 58 (.load (some 2) (.t 13)),
oN (.store 2 (.t 10) (.t 58))] [6,8,10,31,32,33]))))))))
(.reg [oP 59 (.bin .add (.t 33) (cI 1)),
mV 33 59] [6,8,10,31,32,33])))))))
(.seq (.dreg [oP 60 (.fieldAddr none 0 (.t 10)),
oP 61 (.load none (.t 60)),
oP 62 (.call (.f 159) [false] [(.t 61)]),
oP 63 (.fieldAddr none 1 (.t 10)),
oP 64 (.load none (.t 63)),
oP 65 (.call (.f 159) [false] [(.t 64)]),
oP 66 (.build [.slice 1 [], .slice 1 []] [(0,1,(.t 62)),(1,1,(.t 65))]),
oN (.store 2 (.t 6) (.t 66)),
oP 7 (.mv (cI 0))] [6,7] [[],[0],[0,1],[],[3],[0,1,2,3,4],[0,1,2,3,4,5],[0,1,2,3,4,5,6],[0,1,2,3,4,5,6,7]])
.ret))))))
abbrev J2:RsT:=[(6,some (some 2)),(7,none)]
theorem akf:an Tryz.prog Tryz.f90 67 LW J2 = true:=by kernel_rfl
theorem ajI:af Tryz.prog qe = true:=by kernel_rfl
theorem afd:ag Tryz.prog ⟨90,67,LW,J2,0⟩:=⟨fun _=>⟨ajI,_,Tryz.func90,akf⟩,fun h=>by cases h⟩
abbrev afb:FuncId:=91
def Kf:AC:=
(.seq (.reg [oP 2 (.pbox 1 (.t 0)),
oP 4 (.mv (.c (.bool false)))] [1,2])
(.seq (.reg [mV 5 1,
oP 6 (.mkfunc (.func 160) [] [(.t 2)]),
oP 7 (.call (.f 145) [true,false] [(.t 5),(.t 6)]),
mV 4 7] [4])
.ret))
abbrev M9:RsT:=[(4,none)]
theorem ajX:an Tryz.prog Tryz.f91 8 Kf M9 = true:=by kernel_rfl
theorem aj5:af Tryz.prog afb = true:=by kernel_rfl
theorem aiS:ag Tryz.prog ⟨91,8,Kf,M9,0⟩:=⟨fun _=>⟨aj5,_,Tryz.func91,ajX⟩,fun h=>by cases h⟩
end Go.AM
