/- The examples of chapter 06: the tasks T, U and V, and their parts. -/
import Derived.Test.YtmjfcbpgnmajpaaGreatDoorTC0
namespace Go.AM
open Go.Proofs
set_option maxRecDepth 100000

def jj (n : Int) : AVal := .int .i64 n
def bowS : ByteArray := ⟨#[98, 111, 119]⟩
def midS : ByteArray := ⟨#[109, 105, 100]⟩
def sternS : ByteArray := ⟨#[115, 116, 101, 114, 110]⟩
def shipPart (n : ByteArray) (k a b : Int) (on : List AVal) : AVal := .agg [.str n, jj k, jj a, jj b, .slice 1 on, jj 1, jj 1]
def bowP : AVal := .agg [.str bowS, jj 100, jj 1000, jj 1200, jj 50, jj 10, jj 12]
def midP : AVal := .agg [.str midS, jj 400, jj 500, jj 600, jj 100, jj 4, jj 5]
def sternP : AVal := .agg [.str sternS, jj 900, jj 2000, jj 2000, jj 100, jj 20, jj 20]
def partsV (on : List AVal) : AVal := .slice 7 [shipPart bowS 2 0 10 [], shipPart midS 1 5 30 on, shipPart sternS 1 25 40 []]
def hull6 (l : List AVal) : AVal := .agg [.slice 7 l, jj 200, jj 800]
def tide6 : AVal := .agg [jj 0, jj 60]
def tanksV : AVal := .slice 2 [.agg [.str ⟨#[97]⟩, .bool true], .agg [.str ⟨#[98]⟩, .bool false], .agg [.str ⟨#[99]⟩, .bool false], .agg [.str ⟨#[100]⟩, .bool false], .agg [.str ⟨#[101]⟩, .bool false]]
def pipeV (a b : Int) : AVal := .agg [jj a, jj b, .bool false]
def pipesV : AVal := .slice 3 [pipeV 0 1, pipeV 1 2, pipeV 0 2, pipeV 2 3, pipeV 3 4, pipeV 2 4]
def blanksV : AVal := .slice 1 [jj 3, jj 5]
def stepsV : AVal := .slice 2 [.agg [jj 3, .bool false], .agg [jj 4, .bool false], .agg [jj 3, .bool true], .agg [jj 4, .bool true]]
def task6 (on gas : List AVal) : AVal :=
  .agg [partsV on, .slice 7 [bowP, midP, sternP], jj 200, jj 800, jj 0, jj 60, tanksV, pipesV, blanksV, stepsV, .slice 1 [.slice 1 [], .slice 1 [jj 3, jj 4], .slice 1 gas]]
def taskT : AVal := task6 [] []
def taskU : AVal := task6 [.str bowS] []
def taskV : AVal := task6 [] [jj 2]
end Go.AM
