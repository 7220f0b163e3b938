/- oper: operators, drafts; contracts of Check, Class. -/
import Derived.Test.YtbfebjmmpiffpaaH04
import Derived.Test.YtbfebjmmpiffpaaE05
namespace Go.Proofs.Ytbfebjmmpiffpaa
open Ab

structure Op4 where
  k : Int
  a : Int
  b : Int
  g : Int
def Op4.v (x : Op4) : AVal := .agg [.int .i64 x.k, .int .i64 x.a, .int .i64 x.b, .int .i64 x.g]
def op1 (us : List AVal) (_ : List Blk) : Option Op4 := match us with
  | [.agg [.int _ k, .int _ a, .int _ b, .int _ g]] => some ⟨k, a, b, g⟩
  | _ => none
def inZ (n l m : Int) : Bool := decide (l ≤ n) && decide (n ≤ m)
def sizeB (x : Op4) : Bool := inZ x.a 1 1073741824
def mayB (x : Op4) : Bool :=
  if x.k = 0 then decide (x.g = 0) else
  if x.k = 1 then decide (x.g = 0) && (inZ x.a 1 4294967295 && inZ x.b 0 4294967295) else
  if x.k = 2 then decide (x.g = 0) && (sizeB x && inZ x.b 0 (x.a - 1)) else
  if x.k = 3 then decide (x.g = 0) && inZ x.a 1 3 else
  if x.k = 4 then inZ x.g 0 3 && (sizeB x && decide (x.b = 0)) else
  if x.k = 5 then inZ x.g 0 3 && (sizeB x && (decide (1 ≤ x.b) && (decide (Int.tmod x.a x.b = 0) && decide (x.a ≤ 4 * x.b)))) else
  if x.k = 6 then inZ x.g 0 3 && (sizeB x && decide (x.b = 0)) else
  if x.k = 7 then decide (x.g = 0) && (sizeB x && decide (x.b = 0)) else false
def checkE (x : Op4) : Int := if mayB x = true then 0 else 13
def classE (x : Op4) : Int := if 0 ≤ x.k ∧ x.k ≤ 3 then 0 else if 4 ≤ x.k ∧ x.k ≤ 6 then 1 else if x.k = 7 then 2 else -1

def checkD : CDeal Op4 := ⟨fun x => [x.v], fun _ => [], fun _ => true, fun x => .int .i64 (checkE x), fun _ => []⟩
def classD : CDeal Op4 := ⟨fun x => [x.v], fun _ => [], fun _ => true, fun x => .int .i64 (classE x), fun _ => []⟩

/-- a draft -/
structure Dr where
  w : Int
  a : Int
  b : Int
  g : Int
  odd : Bool
def Dr.v (x : Dr) : AVal := .agg [.int .u8 x.w, .int .i64 x.a, .int .i64 x.b, .int .u8 x.g, .bool x.odd]
def dr1 (us : List AVal) (_ : List Blk) : Option Dr := match us with
  | [.agg [.int _ w, .int _ a, .int _ b, .int _ g, .bool odd]] => some ⟨w, a, b, g, odd⟩
  | _ => none

def modI (n m : Int) : Int := Int.tmod (wr .i64 (Int.tmod n m + m)) m
/-- the operator of a draft -/
def Dr.K (d : Dr) : Int := wr .i64 (Int.tmod d.w 8)
def Dr.A2 (d : Dr) : Int := wr .i64 (1 + modI d.a 20)
def Dr.B5 (d : Dr) : Int := wr .i64 (1 + modI d.b 268435456)
def Dr.A (d : Dr) (K : Int) : Int := if K = 1 then wr .i64 (1 + modI d.a 4294967295) else if K = 2 then d.A2 else if K = 3 then wr .i64 (1 + modI d.a 3) else if K = 4 then wr .i64 (1 + modI d.a 1073741824) else if K = 6 then wr .i64 (1 + modI d.a 1073741824) else if K = 7 then wr .i64 (1 + modI d.a 1073741824) else if K = 5 then wr .i64 (d.B5 * wr .i64 (1 + modI d.a 4)) else d.a
def Dr.B (d : Dr) (K : Int) : Int := if K = 1 then modI d.b 4294967296 else if K = 2 then modI d.b d.A2 else if K = 3 then d.b else if K = 4 then 0 else if K = 6 then 0 else if K = 7 then 0 else if K = 5 then d.B5 else d.b
def Dr.G (d : Dr) (K : Int) : Int := if K = 4 then wr .i64 (Int.tmod d.g 4) else if K = 5 then wr .i64 (Int.tmod d.g 4) else if K = 6 then wr .i64 (Int.tmod d.g 4) else 0
def drO (d : Dr) : Op4 := if d.odd = true then ⟨wr .i64 (wr .i64 (Int.tmod d.w 12) - 2), d.a, d.b, wr .i64 (wr .i64 (Int.tmod d.g 6) - 1)⟩ else ⟨d.K, d.A d.K, d.B d.K, d.G d.K⟩
def drD : CDeal Dr := ⟨fun d => [d.v], fun _ => [], fun _ => true, fun d => (drO d).v, fun _ => []⟩

def S1 : Sums := sumF 12 (callG classD op1) (sumF 11 (callG classD op1) (sumF 10 (callG checkD op1) (sumF 9 (callG checkD op1) noS)))
def SC : Sums := sumF 12 (callG classD op1) noS
def mayD : CDeal Op4 := ⟨fun x => [x.v], fun _ => [], fun _ => true, fun x => .bool (mayB x), fun _ => []⟩
def SM : Sums := sumF 21 (callG mayD op1) SC
def S2 : Sums := sumF 8 (callG drD dr1) (sumF 13 (callG trueD fun _ _ => some ()) S1)

end Go.Proofs.Ytbfebjmmpiffpaa
