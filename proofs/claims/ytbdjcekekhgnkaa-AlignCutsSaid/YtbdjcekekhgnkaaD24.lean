/- align: an aligner's numbers; contracts of its functions, and of the document's. -/
import Derived.Test.YtbdjcekekhgnkaaH24
import Derived.Test.YtbdjcekekhgnkaaE05
namespace Go.Proofs.Ytbdjcekekhgnkaa
open Ab

/-- the program's aligner: on which ways it has come, how many ways, the last barrier -/
structure Al where
  c : List Bool
  d : List Bool
  n : Int
  m : Int
  l : Int

def Al.blk (x : Al) : Blk := .segs [⟨1, 1, [.int .i64 [x.n]]⟩, ⟨16, 1, [.bool x.c]⟩, ⟨1, 1, [.int .i64 [x.m]]⟩, ⟨16, 1, [.bool x.d]⟩, ⟨1, 1, [.int .i64 [x.l]]⟩]

def alOf : Blk → Option Al
  | .segs [⟨_, _, [.int _ [n]]⟩, ⟨_, _, [.bool c]⟩, ⟨_, _, [.int _ [m]]⟩, ⟨_, _, [.bool d]⟩, ⟨_, _, [.int _ [l]]⟩] => some ⟨c, d, n, m, l⟩
  | _ => none

def okAl (x : Al) : Bool := decide (x.c.length = 16) && (decide (x.d.length = 16) && (decide (0 ≤ x.n) && (decide (x.n ≤ 16) && (decide (0 ≤ x.m) && decide (x.m ≤ 16)))))

/-- the ways that there are -/
def Al.p (x : Al) : List Bool := x.c.take x.n.toNat
def Al.q (x : Al) : List Bool := x.d.take x.m.toNat

def allB (l : List Bool) (g : Bool) : Bool := l.all fun b => b == g
def phaseL (p q : List Bool) : Int := if (allB p false && allB q false) = true then 0 else if allB p true = false then 1 else if allB q true = false then 2 else 3

/-- a barrier comes: what is told -/
def comeE (p : List Bool) (l i k : Int) : Int := if i < 0 ∨ (p.length : Int) ≤ i then 2 else if p.getD i.toNat false = true then 19 else if wr .i64 (k - 1) ≠ l then 7 else 0
def putB (c : List Bool) (e i : Int) : List Bool := if e = 0 then c.set i.toNat true else c

def Al.come (x : Al) (i k : Int) : Al := { x with c := putB x.c (comeE x.p x.l i k) i }
def Al.beside (x : Al) (i k : Int) : Al := { x with d := putB x.d (comeE x.q x.l i k) i }
def Al.done (x : Al) : Al := if phaseL x.p x.q = 3 then ⟨List.replicate 16 false, List.replicate 16 false, x.n, x.m, wr .i64 (x.l + 1)⟩ else x

def isB (p : List Bool) (i : Int) : Bool := decide (0 ≤ i) && (decide (i < p.length) && p.getD i.toNat false)

structure AllX where
  x : Al
  s : Bool
  g : Bool

def allD : CDeal AllX where
  args y := [match y.s with
    | true => .slice (.own 0 1 0 1) y.x.n.toNat (some 16)
    | false => .slice (.own 0 18 0 1) y.x.m.toNat (some 16), match y.g with
    | true => .fn 28 []
    | false => .fn 27 []]
  blks y := [y.x.blk]
  pre y := okAl y.x
  out y := match y.s with
    | true => .bool (allB y.x.p y.g)
    | false => .bool (allB y.x.q y.g)
  blks' y := [y.x.blk]

def allO (us : List AVal) (Bs : List Blk) : Option AllX := match us, Bs with
  | [.slice (.own _ o _ _) _ _, .fn f _], [B] => match alOf B with
    | some x => some ⟨x, Nat.beq o 1, Nat.beq f 28⟩
    | none => none
  | _, _ => none

def alD (out : Al → AVal) (nx : Al → Al) : CDeal Al := ⟨fun _ => [.ptr (.own 0 0 0 0)], fun x => [x.blk], okAl, out, fun x => [(nx x).blk]⟩
def al1 (_ : List AVal) (Bs : List Blk) : Option Al := match Bs with
  | [B] => alOf B
  | _ => none

structure AlI where
  x : Al
  i : Int
  k : Int
def alI (us : List AVal) (Bs : List Blk) : Option AlI := match us, Bs with
  | [_, .int _ i], [B] => match alOf B with
    | some x => some ⟨x, i, 0⟩
    | none => none
  | [_, .int _ i, .int _ k], [B] => match alOf B with
    | some x => some ⟨x, i, k⟩
    | none => none
  | _, _ => none

def phaseD : CDeal Al := alD (fun x => .int .i64 (phaseL x.p x.q)) id
def lastD : CDeal Al := alD (fun x => .int .i64 x.l) id
def blockedD : CDeal AlI := ⟨fun y => [.ptr (.own 0 0 0 0), .int .i64 y.i], fun y => [y.x.blk], fun y => okAl y.x, fun y => .bool (isB y.x.p y.i), fun y => [y.x.blk]⟩
def besidedD : CDeal AlI := ⟨fun y => [.ptr (.own 0 0 0 0), .int .i64 y.i], fun y => [y.x.blk], fun y => okAl y.x, fun y => .bool (isB y.x.q y.i), fun y => [y.x.blk]⟩
def comeD : CDeal AlI := ⟨fun y => [.ptr (.own 0 0 0 0), .int .i64 y.i, .int .i64 y.k], fun y => [y.x.blk], fun y => okAl y.x, fun y => .int .i64 (comeE y.x.p y.x.l y.i y.k), fun y => [(y.x.come y.i y.k).blk]⟩
def besideD : CDeal AlI := ⟨fun y => [.ptr (.own 0 0 0 0), .int .i64 y.i, .int .i64 y.k], fun y => [y.x.blk], fun y => okAl y.x, fun y => .int .i64 (comeE y.x.q y.x.l y.i y.k), fun y => [(y.x.beside y.i y.k).blk]⟩
def doneD : CDeal Al := alD (fun x => .int .i64 (if phaseL x.p x.q = 3 then 0 else 7)) Al.done

end Go.Proofs.Ytbdjcekekhgnkaa
