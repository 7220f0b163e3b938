/- acc: contracts of AccOrder's loops. -/
import Derived.Test.YtebpekgijakonaaD05g
namespace Go.Proofs.Ytebpekgijakonaa
open Ab

structure Qd where
  n : Int
  s : Int
  a : Int
  b : Int

def Qd.ac (q : Qd) : Ac := ⟨q.n, q.s / 18446744073709551616, q.s % 18446744073709551616, q.a, q.b⟩
def Qd.add (p q : Qd) : Qd := ⟨p.n + q.n, p.s + q.s, if q.a < p.a then q.a else p.a, if p.b < q.b then q.b else p.b⟩
def single (v : Int) : Qd := ⟨1, v, v, v⟩
def tot : List Int → Qd
  | [] => ⟨0, 0, 0, 0⟩
  | v :: l => l.foldl (fun t w => t.add (single w)) (single v)
def singles (ys : List Int) : List Ac := ys.map fun v => (single v).ac
def sH : List Int → Int
  | [] => 0
  | v :: l => v / 4294967296 + sH l
def sL : List Int → Int
  | [] => 0
  | v :: l => v % 4294967296 + sL l

/-- the state in the second loop, and behind it -/
def tsF (m : Nat) (C : AVal) (len : Nat) (hi lo i : Int) : List (Nat × AVal) := [(0, .slice (.ro 0 0 0 0) m none), (1, C), (5, .slice (.own 1 0 0 5) len none), (6, .ptr (.own 0 0 0 0)), (7, .int .i64 hi), (8, .int .i64 lo), (10, .int .i64 i)]
def tsE (m : Nat) (len : Nat) (hi lo : Int) : List (Nat × AVal) := [(0, .slice (.ro 0 0 0 0) m none), (5, .slice (.own 1 0 0 5) len none), (6, .ptr (.own 0 0 0 0)), (7, .int .i64 hi), (8, .int .i64 lo)]

def gatherD (xs : List Int) (C : AVal) : Deal Nat where
  ins m := [(0, .slice (.ro 0 0 0 0) m none), (1, C), (5, .nils), (6, .ptr (.own 0 0 0 0)), (7, .int .i64 0), (8, .int .i64 0), (9, .int .i64 0)]
  blks _ := [zero.blk]
  pre m := decide (1 ≤ m) && decide (m ≤ xs.length) && decide (m ≤ 100)
  ex _ := .exit 0
  outs m := [(0, .slice (.ro 0 0 0 0) m none), (1, C), (5, .slice (.own 1 0 0 5) m none), (6, .ptr (.own 0 0 0 0)), (7, .int .i64 (sH (xs.take m))), (8, .int .i64 (sL (xs.take m)))]
  blks' m := [(tot (xs.take m)).ac.blk, rowB (singles (xs.take m))]

def foldD (xs : List Int) (C : AVal) : Deal Nat where
  ins m := tsF m C m (sH (xs.take m)) (sL (xs.take m)) 0
  blks m := [(tot (xs.take m)).ac.blk, rowB (singles (xs.take m))]
  pre m := decide (1 ≤ m) && decide (m ≤ xs.length) && decide (m ≤ 100)
  ex _ := .exit 2
  outs m := tsE m 1 (sH (xs.take m)) (sL (xs.take m))
  blks' m := [(tot (xs.take m)).ac.blk, rowB [(tot (xs.take m)).ac]]

def L5 (xs : List Int) (C : AVal) : Loops :=
  sumL 5 [false, true, false, true, true, true, true, true, true] (loopA' 160 (gatherD xs C) (fun ts => ids1 (ts.getD 6 .undef)) (fun ts _ => lenOf (ts.getD 0 .undef)))
    (sumL 5 [false, true, false, true, true, true, true, true, true, true] (loopA' 160 (foldD xs C) (fun ts => ids2 (ts.getD 6 .undef) (ts.getD 5 .undef)) (fun ts _ => lenOf (ts.getD 0 .undef))) noL)

end Go.Proofs.Ytebpekgijakonaa
