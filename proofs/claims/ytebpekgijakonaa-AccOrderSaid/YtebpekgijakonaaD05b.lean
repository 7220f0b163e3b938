/- acc: contracts of the loops. -/
import Derived.Test.YtebpekgijakonaaD05
import Derived.Test.YtebpekgijakonaaE28
namespace Go.Proofs.Ytebpekgijakonaa
open Ab

def idOf : AVal → Option Nat
  | .ptr (.own id _ _ _) => some id
  | .slice (.own id _ _ _) _ _ => some id
  | _ => none
def ids1 (a : AVal) : Option (List Nat) := match idOf a with
  | some i => some [i]
  | none => none
def ids2 (a b : AVal) : Option (List Nat) := match idOf a, idOf b with
  | some i, some j => some [i, j]
  | _, _ => none
def lenOf : AVal → Option Nat
  | .slice _ m _ => some m
  | _ => none

def listsD (xs : List Int) : Deal Nat where
  ins m := [(0, .slice (.ro 0 0 0 0) m none), (3, .ptr (.own 0 0 0 0)), (4, .int .i64 0)]
  blks _ := [zero.blk]
  pre m := decide (m ≤ xs.length) && decide (m ≤ 1000)
  ex _ := .exit 0
  outs m := [(0, .slice (.ro 0 0 0 0) m none), (3, .ptr (.own 0 0 0 0))]
  blks' m := [(upto xs m).blk]

def ofD (xs : List Int) : Deal Nat where
  ins m := [(0, .slice (.ro 0 0 0 0) m none), (2, .ptr (.own 1 0 0 0)), (3, .ptr (.own 0 0 0 0)), (4, .int .i64 0)]
  blks _ := [zero.blk, zero.blk]
  pre m := decide (m ≤ xs.length) && decide (m ≤ 1000)
  ex _ := .exit 0
  outs _ := [(2, .ptr (.own 1 0 0 0)), (3, .ptr (.own 0 0 0 0))]
  blks' m := [(upto xs m).blk, zero.blk]

def L4 (xs : List Int) : Loops :=
  sumL 4 [false, true, false, true, true, true] (loopA' 30 (listsD xs) (fun ts => ids1 (ts.getD 3 .undef)) (fun ts _ => lenOf (ts.getD 0 .undef)))
    (sumL 15 [false, true, false, true, true] (loopA' 19 (ofD xs) (fun ts => ids2 (ts.getD 3 .undef) (ts.getD 2 .undef)) (fun ts _ => lenOf (ts.getD 0 .undef))) noL)

def trueD : CDeal Unit where
  args _ := []
  blks _ := []
  pre _ := true
  out _ := .bool true
  blks' _ := []

def S14 : Sums := sumF 14 (callD trueD (fun _ => some []) (fun _ _ => some ())) noS

end Go.Proofs.Ytebpekgijakonaa
