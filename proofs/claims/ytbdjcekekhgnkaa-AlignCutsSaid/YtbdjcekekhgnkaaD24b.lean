/- align: the document's aligner; contracts; what is alike. -/
import Derived.Test.YtbdjcekekhgnkaaD24
namespace Go.Proofs.Ytbdjcekekhgnkaa
open Ab

structure Rf where
  p : List Bool
  q : List Bool
  l : Int

def bl (n : Nat) (p : List Bool) : Blk := .segs [⟨n, 1, [.bool p]⟩]
def Rf.b0 (i j : Nat) (r : Rf) : Blk := .segs [⟨1, 1, [.val [.slice (.own i 0 0 1) r.p.length (some r.p.length)]]⟩, ⟨1, 1, [.val [.slice (.own j 0 0 1) r.q.length (some r.q.length)]]⟩, ⟨1, 1, [.int .i64 [r.l]]⟩]

def rfOf : List Blk → Option Rf
  | [.segs [_, _, ⟨_, _, [.int _ [l]]⟩], .segs [⟨_, _, [.bool p]⟩], .segs [⟨_, _, [.bool q]⟩]] => some ⟨p, q, l⟩
  | _ => none

def ok64 (v : Int) : Bool := decide (-9223372036854775808 ≤ v) && decide (v < 9223372036854775808)
def okRf (r : Rf) : Bool := decide (r.p.length ≤ 16) && (decide (r.q.length ≤ 16) && ok64 r.l)

def cnt : List Bool → Int
  | [] => 0
  | b :: l => (if b = true then 1 else 0) + cnt l

def countD : CDeal (List Bool) := ⟨fun p => [.slice (.own 0 0 0 1) p.length (some p.length)], fun p => [bl p.length p], fun p => decide (p.length ≤ 1000), fun p => .int .i64 (cnt p), fun p => [bl p.length p]⟩
def countO (_ : List AVal) (Bs : List Blk) : Option (List Bool) := match Bs with
  | [.segs [⟨_, _, [.bool p]⟩]] => some p
  | _ => none

def rphaseD : CDeal Rf := ⟨fun _ => [.ptr (.own 0 0 0 0)], fun r => [r.b0 1 2, bl r.p.length r.p, bl r.q.length r.q], okRf, fun r => .int .i64 (phaseL r.p r.q), fun r => [r.b0 1 2, bl r.p.length r.p, bl r.q.length r.q]⟩
def rf1 (_ : List AVal) (Bs : List Blk) : Option Rf := rfOf Bs

structure RfI where
  r : Rf
  i : Int
  k : Int
def rfI (us : List AVal) (Bs : List Blk) : Option RfI := match us, rfOf Bs with
  | [_, .int _ i, .int _ k], some r => some ⟨r, i, k⟩
  | _, _ => none

def Rf.come (r : Rf) (i k : Int) : Rf := { r with p := putB r.p (comeE r.p r.l i k) i }
def Rf.beside (r : Rf) (i k : Int) : Rf := { r with q := putB r.q (comeE r.q r.l i k) i }
def Rf.done (r : Rf) : Rf := ⟨List.replicate r.p.length false, List.replicate r.q.length false, wr .i64 (r.l + 1)⟩

def rcomeD : CDeal RfI := ⟨fun y => [.ptr (.own 0 0 0 0), .int .i64 y.i, .int .i64 y.k], fun y => [y.r.b0 1 2, bl y.r.p.length y.r.p, bl y.r.q.length y.r.q], fun y => okRf y.r && ok64 y.k, fun y => .int .i64 (comeE y.r.p y.r.l y.i y.k),
  fun y => [(y.r.come y.i y.k).b0 1 2, bl (y.r.come y.i y.k).p.length (y.r.come y.i y.k).p, bl y.r.q.length y.r.q]⟩
def rbesideD : CDeal RfI := ⟨fun y => [.ptr (.own 0 0 0 0), .int .i64 y.i, .int .i64 y.k], fun y => [y.r.b0 1 2, bl y.r.p.length y.r.p, bl y.r.q.length y.r.q], fun y => okRf y.r && ok64 y.k, fun y => .int .i64 (comeE y.r.q y.r.l y.i y.k),
  fun y => [(y.r.beside y.i y.k).b0 1 2, bl y.r.p.length y.r.p, bl (y.r.beside y.i y.k).q.length (y.r.beside y.i y.k).q]⟩
def isDone (r : Rf) : Bool := decide (phaseL r.p r.q = 3)
def rdone1 : CDeal Rf := ⟨fun _ => [.ptr (.own 0 0 0 0)], fun r => [r.b0 1 2, bl r.p.length r.p, bl r.q.length r.q], fun r => okRf r && isDone r, fun _ => .int .i64 0,
  fun r => [r.done.b0 3 4, bl r.p.length r.p, bl r.q.length r.q, bl r.done.p.length r.done.p, bl r.done.q.length r.done.q]⟩
def rdone2 : CDeal Rf := ⟨fun _ => [.ptr (.own 0 0 0 0)], fun r => [r.b0 1 2, bl r.p.length r.p, bl r.q.length r.q], fun r => okRf r && !isDone r, fun _ => .int .i64 7,
  fun r => [r.b0 1 2, bl r.p.length r.p, bl r.q.length r.q]⟩

/-- both are alike -/
def relB (x : Al) (r : Rf) : Bool := okAl x && (okRf r && (decide (x.n = r.p.length) && (decide (x.m = r.q.length) && (decide (x.p = r.p) && (decide (x.q = r.q) && decide (x.l = r.l))))))

structure Both where
  x : Al
  r : Rf
def bothOf (_ : List AVal) (Bs : List Blk) : Option Both := match Bs with
  | [A, R, I, B] => match alOf A, rfOf [R, I, B] with
    | some x, some r => some ⟨x, r⟩
    | _, _ => none
  | _ => none
def both (y : Both) : List Blk := [y.x.blk, y.r.b0 2 3, bl y.r.p.length y.r.p, bl y.r.q.length y.r.q]
def alikeD : CDeal Both := ⟨fun _ => [.ptr (.own 0 0 0 0), .ptr (.own 1 0 0 0)], both, fun y => relB y.x y.r, fun _ => .bool true, both⟩

/-- the loops -/
structure AllL where
  y : AllX
def allIns (y : AllX) : List (Nat × AVal) := [(1, match y.g with
    | true => .fn 28 []
    | false => .fn 27 []), (7, match y.s with
    | true => .slice (.own 0 1 0 1) y.x.n.toNat (some 16)
    | false => .slice (.own 0 18 0 1) y.x.m.toNat (some 16)), (8, .int .i64 (match y.s with
    | true => (y.x.n.toNat : Int)
    | false => (y.x.m.toNat : Int))), (9, .int .i64 0)]
def allV (y : AllX) : Bool := match y.s with
    | true => allB y.x.p y.g
    | false => allB y.x.q y.g
def allL1 : Deal AllX := ⟨allIns, fun y => [y.x.blk], fun y => okAl y.x && allV y, fun _ => .exit 0, fun _ => [], fun y => [y.x.blk]⟩
def allL2 : Deal AllX := ⟨allIns, fun y => [y.x.blk], fun y => okAl y.x && !allV y, fun _ => .ret, fun _ => [(4, .bool false)], fun y => [y.x.blk]⟩
def allLO (us : List AVal) (Bs : List Blk) : Option AllX := match us with
  | [f, s] => allO [s, f] Bs
  | _ => none
def L26 : Loops := sumL 26 [false, true, false, true] (loop2G 18 allL1 allL2 allV [1, 7] allLO) noL

def countL : Deal (List Bool) := ⟨fun p => [(0, .slice (.own 0 0 0 1) p.length (some p.length)), (3, .int .i64 0), (4, .int .i64 0)], fun p => [bl p.length p], fun p => decide (p.length ≤ 1000), fun _ => .exit 0, fun p => [(3, .int .i64 (cnt p))], fun p => [bl p.length p]⟩
def L31 : Loops := sumL 31 [false, true, false, true, true] (loopG 18 countL [0] countO) noL

def alikeL : Deal Both := ⟨fun _ => [(0, .ptr (.own 0 0 0 0)), (1, .ptr (.own 1 0 0 0)), (5, .int .i64 (-1))], both, fun y => relB y.x y.r, fun _ => .exit 0, fun _ => [], both⟩
def L14 : Loops := sumL 14 [false, true, false, true, true] (loopG 74 alikeL [0, 1] bothOf) noL

/-! The functions that are told, one after the other. -/
def S1 : Sums := sumF 31 (callG countD countO) (sumF 26 (callG allD allO) noS)
def S2 : Sums := sumF 20 (callG besidedD alI) (sumF 19 (callG blockedD alI) (sumF 18 (callG lastD al1) (sumF 25 (callG rphaseD rf1) (sumF 17 (callG phaseD al1) S1))))
def S3 : Sums := sumF 14 (callG alikeD bothOf) (sumF 13 (call2G rdone1 rdone2 isDone rf1) (sumF 12 (callG doneD al1) (sumF 11 (callG rbesideD rfI) (sumF 10 (callG besideD alI) (sumF 9 (callG rcomeD rfI) (sumF 8 (callG comeD alI) S2))))))
def S4 : Sums := sumF 15 (callG trueD fun _ _ => some ()) S3

end Go.Proofs.Ytbdjcekekhgnkaa
