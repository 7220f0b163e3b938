/- front: FrontPlays: the document's front; makers; contracts. -/
import Derived.Test.YtnnbbjfbhigcfaaD23c
namespace Go.Proofs.Ytnnbbjfbhigcfaa
open Ab

def clampV (v : Int) : Int := if v < 0 then 0 else if 1152921504606846976 < v then 1152921504606846976 else v
def withinD : CDeal Int := ⟨fun v => [.int .i64 v], fun _ => [], fun _ => true, fun v => .int .i64 (clampV v), fun _ => []⟩

def allT (l : List Int) : Bool := l.all inT

/-- marks that are given: none, or the first ones of a row -/
def slN : Sl → Nat
  | .nil => 0
  | .ro _ m => m
def okS20 (T : Tb) : Sl → Bool
  | .nil => true
  | .ro p m => decide (m ≤ (T.hs p).length) && decide (m ≤ 20)
structure Mk where
  s : Sl
  t : Int
def mkO (us : List AVal) (_ : List Blk) : Option Mk := match us with
  | [s, .int _ t] => match slOf s with
    | some s => some ⟨s, t⟩
    | none => none
  | _ => none
def makeOk (T : Tb) (y : Mk) : Bool := decide (1 ≤ slN y.s) && (decide (slN y.s ≤ 16) && (inT y.t && allT (y.s.l T)))
def mkFr (l : List Int) (n : Nat) (t : Int) : Fr := ⟨l ++ List.replicate (16 - n) 0, n, t⟩
def make1 (T : Tb) : CDeal Mk := ⟨fun y => [y.s.v, .int .i64 y.t], fun _ => [], fun y => okS20 T y.s && makeOk T y, fun _ => .ptr (.own 0 0 0 0), fun y => [(mkFr (y.s.l T) (slN y.s) y.t).blk]⟩
def make2 (T : Tb) : CDeal Mk := ⟨fun y => [y.s.v, .int .i64 y.t], fun _ => [], fun y => okS20 T y.s && !makeOk T y, fun _ => .nilp, fun _ => []⟩

/-- the document's front -/
structure Rr where
  l : List Int
  t : Int
def Rr.b0 (j : Nat) (r : Rr) : Blk := .segs [⟨1, 1, [.val [.slice (.own j 0 0 1) r.l.length none]]⟩, ⟨1, 1, [.int .i64 [r.t]]⟩]
def Rr.b1 (r : Rr) : Blk := rowI r.l.length r.l
def rrOf : List Blk → Option Rr
  | [.segs [_, ⟨_, _, [.int _ [t]]⟩], .segs [⟨_, _, [.int _ l]⟩]] => some ⟨l, t⟩
  | _ => none
def rmake1 (T : Tb) : CDeal Mk := ⟨fun y => [y.s.v, .int .i64 y.t], fun _ => [], fun y => okS20 T y.s && makeOk T y, fun _ => .ptr (.own 1 0 0 0), fun y => [rowI (slN y.s) (y.s.l T), .segs [⟨1, 1, [.val [.slice (.own 0 0 0 1) (slN y.s) none]]⟩, ⟨1, 1, [.int .i64 [y.t]]⟩]]⟩
def rmake2 (T : Tb) : CDeal Mk := make2 T
/-- of noughts -/
def zerosI (n : Nat) : List Int := List.replicate n 0
def rnew1 : CDeal Int := ⟨fun n => [.int .i64 n], fun _ => [], newOk, fun _ => .ptr (.own 1 0 0 0), fun n => [rowI n.toNat (zerosI n.toNat), .segs [⟨1, 1, [.val [.slice (.own 0 0 0 1) n.toNat none]]⟩, ⟨1, 1, [.int .i64 [0]]⟩]]⟩

def okRr (r : Rr) : Bool := decide (1 ≤ r.l.length) && decide (r.l.length ≤ 16)
def rrB (r : Rr) : List Blk := [r.b0 1, r.b1]
structure RrM where
  r : Rr
  i : Int
  a : Int
def rrM (us : List AVal) (Bs : List Blk) : Option RrM := match us, rrOf Bs with
  | [_, .int _ i, .int _ a], some r => some ⟨r, i, a⟩
  | [_, .int _ i], some r => some ⟨r, i, 0⟩
  | _, _ => none
def rr1 (_ : List AVal) (Bs : List Blk) : Option Rr := rrOf Bs
def Rr.mark (r : Rr) (i a : Int) : Rr := { r with l := putI r.l (markE r.l i a) i a }
def rmin (r : Rr) : Int := leastL (r.l.getD 0 0) r.l
def rmarkD : CDeal RrM := ⟨fun y => [.ptr (.own 0 0 0 0), .int .i64 y.i, .int .i64 y.a], fun y => rrB y.r, fun y => okRr y.r, fun y => .int .i64 (markE y.r.l y.i y.a), fun y => rrB (y.r.mark y.i y.a)⟩
def rofD : CDeal RrM := ⟨fun y => [.ptr (.own 0 0 0 0), .int .i64 y.i], fun y => rrB y.r, fun y => okRr y.r, fun y => .int .i64 (ofL y.r.l y.i), fun y => rrB y.r⟩
def rminD : CDeal Rr := ⟨fun _ => [.ptr (.own 0 0 0 0)], rrB, okRr, fun r => .int .i64 (rmin r), rrB⟩
structure RrT where
  r : Rr
  s : Sl
def rrT (us : List AVal) (Bs : List Blk) : Option RrT := match us, rrOf Bs with
  | [_, s], some r => match slOf s with
    | some s => some ⟨r, s⟩
    | none => none
  | _, _ => none
def rtellA (T : Tb) (r : Rr) (s : Sl) : Int := leastL (rmin r) (s.l T)
def rtellV (T : Tb) (r : Rr) (s : Sl) : Int := if r.t < rtellA T r s then rtellA T r s else r.t
def rtellB (T : Tb) (r : Rr) (s : Sl) : Bool := decide (r.t < rtellA T r s)
def rtellD (T : Tb) : CDeal RrT := ⟨fun y => [.ptr (.own 0 0 0 0), y.s.v], fun y => rrB y.r, fun y => okRr y.r && okS T y.s, fun y => .tup [.int .i64 (rtellV T y.r y.s), .bool (rtellB T y.r y.s)], fun y => rrB ⟨y.r.l, rtellV T y.r y.s⟩⟩

/-- both lists -/
structure Ls where
  n : Nat
  l : List Int
  m : Nat
  l' : List Int
def lsO (us : List AVal) (Bs : List Blk) : Option Ls := match us, Bs with
  | [.slice _ n _, .slice _ m _], [.segs [⟨_, _, [.int _ l]⟩], .segs [⟨_, _, [.int _ l']⟩]] => some ⟨n, l, m, l'⟩
  | _, _ => none
def lsA (y : Ls) : List AVal := [.slice (.own 0 0 0 1) y.n none, .slice (.own 1 0 0 1) y.m none]
def lsB (y : Ls) : List Blk := [rowI y.n y.l, rowI y.m y.l']
def lsP (y : Ls) : Bool := decide (y.n = y.m) && (decide (y.l = y.l') && (decide (y.l.length = y.n) && decide (y.n ≤ 16)))
def intsD : CDeal Ls := ⟨lsA, lsB, lsP, fun _ => .bool true, lsB⟩
def intsLoop : Deal Ls := ⟨fun y => [(0, .slice (.own 0 0 0 1) y.n none), (1, .slice (.own 1 0 0 1) y.m none), (5, .int .i64 0)], lsB, lsP, fun _ => .exit 0, fun _ => [], lsB⟩
def L24 : Loops := sumL 24 [false, true, false, true, true] (loopG 26 intsLoop [0, 1] lsO) noL

def rminLoop : Deal Rr := ⟨fun r => [(0, .ptr (.own 0 0 0 0)), (3, .int .i64 (r.l.getD 0 0)), (4, .int .i64 0)], rrB, okRr, fun _ => .exit 0, fun r => [(3, .int .i64 (rmin r))], rrB⟩
def L23 : Loops := sumL 23 [false, true, false, true, true] (loopG 30 rminLoop [0] rr1) noL
def rtellLoop (T : Tb) : Deal RrT := ⟨fun y => [(0, .ptr (.own 0 0 0 0)), (1, y.s.v), (6, .int .i64 (rmin y.r)), (7, .int .i64 0)], fun y => rrB y.r, fun y => okRr y.r && okS T y.s, fun _ => .exit 0, fun y => [(0, .ptr (.own 0 0 0 0)), (6, .int .i64 (rtellA T y.r y.s))], fun y => rrB y.r⟩
def L22 (T : Tb) : Loops := sumL 22 [false, true, false, true, true] (loopG 37 (rtellLoop T) [0, 1] rrT) noL

/-- the makers' loops -/
structure Ml where
  s : Sl
  t : Int
  x : Fr
def mlO (us : List AVal) (Bs : List Blk) : Option Ml := match us, Bs with
  | [.int _ t, _, s, _, _], [B] => match slOf s, frOf B with
    | some s, some x => some ⟨s, t, x⟩
    | _, _ => none
  | _, _ => none
def makeR (T : Tb) : RDeal Ml where
  ins y := [(1, .int .i64 y.t), (5, .ptr (.own 0 0 0 0)), (19, y.s.v), (20, .int .i64 (slN y.s)), (21, .int .i64 0)]
  blks y := [y.x.blk]
  pre y := okS20 T y.s && (decide (1 ≤ slN y.s) && (decide (slN y.s ≤ 16) && (decide (y.x.c = List.replicate 16 0) && decide (y.x.n = slN y.s))))
  alts := [⟨Unit, .exit 0, fun y _ => allT (y.s.l T) = true, fun y _ => [(1, .int .i64 y.t), (5, .ptr (.own 0 0 0 0))], fun y _ => [(mkFr (y.s.l T) (slN y.s) y.x.t).blk]⟩,
    ⟨Unit, .ret, fun y _ => allT (y.s.l T) = false, fun _ _ => [(4, .nilp)], fun _ _ => []⟩]
def TK (T : Tb) : Tolds := sumT 17 [false, true, false, true, true, true] (toldR 37 (makeR T) [1, 5, 19, 20, 21] mlO) noT

def okR (T : Tb) : Sl → Bool
  | .nil => false
  | s => okS20 T s
def rmIns (y : Mk) : List (Nat × AVal) := [(0, y.s.v), (1, .int .i64 y.t), (5, .int .i64 0)]
def rmakeL1 (T : Tb) : Deal Mk := ⟨rmIns, fun _ => [], fun y => okR T y.s && allT (y.s.l T), fun _ => .exit 0, fun y => [(0, y.s.v), (1, .int .i64 y.t)], fun _ => []⟩
def rmakeL2 (T : Tb) : Deal Mk := ⟨rmIns, fun _ => [], fun y => okR T y.s && !allT (y.s.l T), fun _ => .ret, fun _ => [(4, .nilp)], fun _ => []⟩
def rmakeL (T : Tb) : Loops := sumL 18 [false, true, false, true, true] (loop2G 37 (rmakeL1 T) (rmakeL2 T) (fun y => allT (y.s.l T)) [0, 1] mkO) noL
structure Nz where
  n : Nat
def nzO (us : List AVal) (_ : List Blk) : Option Nz := match us with
  | [.slice _ n _] => some ⟨n⟩
  | _ => none
def nzB (y : Nz) : List Blk := [rowI y.n (zerosI y.n)]
def nzLoop : Deal Nz := ⟨fun y => [(0, .slice (.own 0 0 0 1) y.n (some y.n)), (1, .int .i64 0), (5, .int .i64 0)], nzB, fun y => decide (y.n ≤ 16), fun _ => .exit 0, fun y => [(0, .slice (.own 0 0 0 1) y.n (some y.n)), (1, .int .i64 0)], nzB⟩
def L18 : Loops := sumL 18 [false, true, false, true, true] (loopG 37 nzLoop [0] nzO) noL

def S5 (T : Tb) : Sums := sumF 26 (callG withinD intO) (S4 T)
def S6 (T : Tb) : Sums := sumF 25 (callG rofD rrM) (sumF 24 (callG intsD lsO) (sumF 23 (callG rminD rr1) (sumF 21 (callG rmarkD rrM) (sumF 16 (call2G rnew1 new2 newOk intO) (sumF 18 (call2G (rmake1 T) (rmake2 T) (makeOk T) mkO) (sumF 17 (call2G (make1 T) (make2 T) (makeOk T) mkO) (S5 T)))))))
def S7 (T : Tb) : Sums := sumF 22 (callG (rtellD T) rrT) (S6 T)

end Go.Proofs.Ytnnbbjfbhigcfaa
