/- front: marks; what is told; contracts of the program's functions. -/
import Derived.Test.YtnnbbjfbhigcfaaH23
import Derived.Test.YtnnbbjfbhigcfaaE31
namespace Go.Proofs.Ytnnbbjfbhigcfaa
open Ab

/-- the program's front: sixteen cells, how many channels, what was told -/
structure Fr where
  c : List Int
  n : Int
  t : Int
def Fr.blk (x : Fr) : Blk := .segs [⟨16, 1, [.int .i64 x.c]⟩, ⟨1, 1, [.int .i64 [x.n]]⟩, ⟨1, 1, [.int .i64 [x.t]]⟩]
def frOf : Blk → Option Fr
  | .segs [⟨_, _, [.int _ c]⟩, ⟨_, _, [.int _ [n]]⟩, ⟨_, _, [.int _ [t]]⟩] => some ⟨c, n, t⟩
  | _ => none
def okFr (x : Fr) : Bool := decide (x.c.length = 16) && (decide (1 ≤ x.n) && decide (x.n ≤ 16))
def Fr.l (x : Fr) : List Int := x.c.take x.n.toNat

/-- the acts: what, the channel, the time; their holds -/
structure Tb where
  w : List Int
  i : List Int
  a : List Int
  ns : List Nat
  bs : List Bool
  hs : Nat → List Int
def tabF (T : Tb) : Nat → Nat → Seg := fun t p => match t with
  | 0 => ⟨T.w.length, 4, [.int .u8 T.w, .int .i8 T.i, .int .i64 T.a, .subs 1 T.ns T.bs]⟩
  | _ => ⟨(T.hs p).length, 1, [.int .i64 (T.hs p)]⟩

/-- holds: none, or the first ones of a row -/
inductive Sl
  | nil
  | ro (p m : Nat)
def Sl.v : Sl → AVal
  | .nil => .nils
  | .ro p m => .slice (.ro 1 p 0 0) m none
def Sl.l (T : Tb) : Sl → List Int
  | .nil => []
  | .ro p m => (T.hs p).take m
def okS (T : Tb) : Sl → Bool
  | .nil => true
  | .ro p m => decide (m ≤ (T.hs p).length) && decide (m ≤ 9)
def slOf : AVal → Option Sl
  | .nils => some .nil
  | .slice (.ro _ p _ _) m _ => some (.ro p m)
  | _ => none

def leastL (v : Int) (l : List Int) : Int := l.foldl (fun a x => if x < a then x else a) v
def minF (x : Fr) : Int := leastL (x.c.getD 0 0) x.l

inductive Le
  | own (v : Int) (x : Fr)
  | sl (v : Int) (s : Sl)
def leO (us : List AVal) (Bs : List Blk) : Option Le := match us, Bs with
  | [.int _ v, _], [B] => match frOf B with
    | some x => some (.own v x)
    | none => none
  | [.int _ v, s], [] => match slOf s with
    | some s => some (.sl v s)
    | none => none
  | _, _ => none
def leV : Le → Int
  | .own v _ => v
  | .sl v _ => v
def leS : Le → AVal
  | .own _ x => .slice (.own 0 0 0 1) x.n.toNat (some x.n.toNat)
  | .sl _ s => s.v
def leB : Le → List Blk
  | .own _ x => [x.blk]
  | .sl _ _ => []
def leL (T : Tb) : Le → List Int
  | .own _ x => x.l
  | .sl _ s => s.l T
def leP (T : Tb) : Le → Bool
  | .own _ x => okFr x
  | .sl _ s => okS T s
def leN : Le → Nat
  | .own _ x => x.n.toNat
  | .sl _ .nil => 0
  | .sl _ (.ro _ m) => m
def leastD (T : Tb) : CDeal Le := ⟨fun y => [.int .i64 (leV y), leS y], leB, leP T, fun y => .int .i64 (leastL (leV y) (leL T y)), leB⟩
def leastLoop (T : Tb) : Deal Le := ⟨fun y => [(0, .int .i64 (leV y)), (7, leS y), (8, .int .i64 (leN y)), (9, .int .i64 0)], leB, leP T, fun _ => .exit 0, fun y => [(0, .int .i64 (leastL (leV y) (leL T y)))], leB⟩
def L19 (T : Tb) : Loops := sumL 19 [false, true, false, true] (loopG 19 (leastLoop T) [0, 7] leO) noL

def frD (out : Fr → AVal) : CDeal Fr := ⟨fun _ => [.ptr (.own 0 0 0 0)], fun x => [x.blk], okFr, out, fun x => [x.blk]⟩
def fr1 (_ : List AVal) (Bs : List Blk) : Option Fr := match Bs with
  | [B] => frOf B
  | _ => none

structure FrM where
  x : Fr
  i : Int
  a : Int
def frM (us : List AVal) (Bs : List Blk) : Option FrM := match us, Bs with
  | [_, .int _ i, .int _ a], [B] => match frOf B with
    | some x => some ⟨x, i, a⟩
    | none => none
  | [_, .int _ i], [B] => match frOf B with
    | some x => some ⟨x, i, 0⟩
    | none => none
  | _, _ => none
def markE (l : List Int) (i a : Int) : Int := if i < 0 ∨ (l.length : Int) ≤ i then 2 else if a < l.getD i.toNat 0 ∨ 1152921504606846976 < a then 12 else 0
def putI (c : List Int) (e i a : Int) : List Int := if e = 0 then c.set i.toNat a else c
def Fr.mark (x : Fr) (i a : Int) : Fr := { x with c := putI x.c (markE x.l i a) i a }
def ofL (l : List Int) (i : Int) : Int := if i < 0 ∨ (l.length : Int) ≤ i then 0 else l.getD i.toNat 0

def minD : CDeal Fr := frD fun x => .int .i64 (minF x)
def toldD : CDeal Fr := frD fun x => .int .i64 x.t
def ofD : CDeal FrM := ⟨fun y => [.ptr (.own 0 0 0 0), .int .i64 y.i], fun y => [y.x.blk], fun y => okFr y.x, fun y => .int .i64 (ofL y.x.l y.i), fun y => [y.x.blk]⟩
def markD : CDeal FrM := ⟨fun y => [.ptr (.own 0 0 0 0), .int .i64 y.i, .int .i64 y.a], fun y => [y.x.blk], fun y => okFr y.x, fun y => .int .i64 (markE y.x.l y.i y.a), fun y => [(y.x.mark y.i y.a).blk]⟩

structure FrT where
  x : Fr
  s : Sl
def frT (us : List AVal) (Bs : List Blk) : Option FrT := match us, Bs with
  | [_, s], [B] => match frOf B, slOf s with
    | some x, some s => some ⟨x, s⟩
    | _, _ => none
  | _, _ => none
def tellA (T : Tb) (x : Fr) (s : Sl) : Int := leastL (minF x) (s.l T)
def tellB (T : Tb) (x : Fr) (s : Sl) : Bool := decide (x.t < tellA T x s)
def tellV (T : Tb) (x : Fr) (s : Sl) : Int := if x.t < tellA T x s then tellA T x s else x.t
def Fr.tell (T : Tb) (x : Fr) (s : Sl) : Fr := { x with t := tellV T x s }
def tellD (T : Tb) : CDeal FrT := ⟨fun y => [.ptr (.own 0 0 0 0), y.s.v], fun y => [y.x.blk], fun y => okFr y.x && okS T y.s, fun y => .tup [.int .i64 (tellV T y.x y.s), .bool (tellB T y.x y.s)], fun y => [(y.x.tell T y.s).blk]⟩

/-- a new one -/
def newOk (n : Int) : Bool := decide (1 ≤ n) && decide (n ≤ 16)
def newFr (n : Int) : Fr := ⟨List.replicate 16 0, n, 0⟩
def intO (us : List AVal) (_ : List Blk) : Option Int := match us with
  | [.int _ n] => some n
  | _ => none
def new1 : CDeal Int := ⟨fun n => [.int .i64 n], fun _ => [], newOk, fun _ => .ptr (.own 0 0 0 0), fun n => [(newFr n).blk]⟩
def new2 : CDeal Int := ⟨fun n => [.int .i64 n], fun _ => [], fun n => !newOk n, fun _ => .nilp, fun _ => []⟩

def S1 (T : Tb) : Sums := sumF 19 (callG (leastD T) leO) noS
def S2 (T : Tb) : Sums := sumF 8 (call2G new1 new2 newOk intO) (sumF 9 (callG markD frM) (sumF 13 (callG ofD frM) (sumF 12 (callG toldD fr1) (sumF 10 (callG minD fr1) (S1 T)))))
def S3 (T : Tb) : Sums := sumF 7 (callG trueD fun _ _ => some ()) (sumF 11 (callG (tellD T) frT) (S2 T))

end Go.Proofs.Ytnnbbjfbhigcfaa
