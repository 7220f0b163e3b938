/- acc: the aggregate from the end on; contracts of AccEnds' loops. -/
import Derived.Test.YtebpekgijakonaaD05c
namespace Go.Proofs.Ytebpekgijakonaa
open Ab

/-- the aggregate of all, from the end on -/
def agg (ys : List Int) : Ac := ys.foldr (fun v a => merge (one v) a) zero

/-- is one of these this? -/
def has (ys : List Int) (v : Int) : Bool := ys.any fun x => decide (x = v)
def within (ys : List Int) (lo hi : Int) : Bool := ys.all fun x => decide (lo ≤ x) && decide (x ≤ hi)

def downD (xs : List Int) : Deal Nat where
  ins m := [(0, .slice (.ro 0 0 0 0) m none), (3, .ptr (.own 0 0 0 0)), (4, .int .i64 ((m : Int) - 1))]
  blks _ := [zero.blk]
  pre m := decide (m ≤ xs.length) && decide (m ≤ 1000)
  ex _ := .exit 0
  outs m := [(0, .slice (.ro 0 0 0 0) m none), (3, .ptr (.own 0 0 0 0))]
  blks' m := [(agg (xs.take m)).blk]

structure Lim where
  m : Nat
  lo : Int
  hi : Int
  s : Bool
  o : Bool

def someD (xs : List Int) : Deal Lim where
  ins x := [(0, .slice (.ro 0 0 0 0) x.m none), (5, .int .i64 x.lo), (7, .int .i64 x.hi), (11, .bool x.s), (12, .bool x.o), (13, .int .i64 0)]
  blks _ := []
  pre x := decide (x.m ≤ xs.length) && decide (x.m ≤ 1000) && within (xs.take x.m) x.lo x.hi
  ex _ := .exit 2
  outs x := [(11, .bool (x.s || has (xs.take x.m) x.lo)), (12, .bool (x.o || has (xs.take x.m) x.hi))]
  blks' _ := []

def limOf (ts : Tmps) : Option Lim := match ts.getD 0 .undef, ts.getD 5 .undef, ts.getD 7 .undef, ts.getD 11 .undef, ts.getD 12 .undef with
  | .slice _ m _, .int _ lo, .int _ hi, .bool s, .bool o => some ⟨m, lo, hi, s, o⟩
  | _, _, _, _, _ => none

def L6 (xs : List Int) : Loops :=
  sumL 6 [false, true, false, true, true, true, true] (loopA' 114 (downD xs) (fun ts => ids1 (ts.getD 3 .undef)) (fun ts _ => lenOf (ts.getD 0 .undef)))
    (sumL 6 [false, true, false, true, true, true, true, true, true, true, true, true, true] (loopA' 114 (someD xs) (fun _ => some []) (fun ts _ => limOf ts)) noL)

end Go.Proofs.Ytebpekgijakonaa
