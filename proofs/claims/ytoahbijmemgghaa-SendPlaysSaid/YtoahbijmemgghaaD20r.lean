/- send: the document's sender: contracts. -/
import Derived.Test.YtoahbijmemgghaaP20w
namespace Go.Proofs.Ytoahbijmemgghaa
open Ab

/-- the document's sender: without a row, or with one -/
inductive Rx
  | z (k b m : Int)
  | q (x : Sd)
def Rx.bs : Rx → List Blk
  | .z k b m => [rzBlk k b m]
  | .q x => [x.rblk 1, Qb x.ts]
def Rx.sx : Rx → Sx
  | .z k b m => .z k b m
  | .q x => .q x
def Rx.ok : Rx → Bool
  | .z k b m => okN 0 k b m
  | .q x => okSd x && decide (x.c = none)
def rxOf : List Blk → Option Rx
  | [.segs [⟨_, _, [.int _ [k]]⟩, ⟨_, _, [.int _ [b]]⟩, ⟨_, _, [.int _ [m]]⟩, ⟨_, _, [.val [.nils]]⟩]] => some (.z k b m)
  | [.segs [⟨_, _, [.int _ [k]]⟩, ⟨_, _, [.int _ [b]]⟩, ⟨_, _, [.int _ [m]]⟩, ⟨_, _, [.val [.slice (.own _ _ o _) n c]]⟩], .segs [⟨_, _, cs⟩]] => match timesOf cs with
    | some ts => some (.q ⟨ts, o, n, c, k, b, m⟩)
    | none => none
  | _ => none
structure Rxi where
  x : Rx
  i : Int
  r : Int
def rxi (us : List AVal) (Bs : List Blk) : Option Rxi := match us, rxOf Bs with
  | [_, .int _ i], some x => some ⟨x, i, 0⟩
  | [_, .int _ i, .int _ r], some x => some ⟨x, i, r⟩
  | _, _ => none
def Sd.rack (x : Sd) (i r : Int) : Sd := if badA x.n x.k x.b i r = true then x else ⟨x.ts, x.o + gone x.b i, x.n - gone x.b i, none, x.k, maxI x.b i, maxI x.m (i + r)⟩
def Rx.ack : Rx → Int → Int → Rx
  | .z k b m, i, r => .z k b (fB (badA 0 k b i r) m (i + r))
  | .q x, i, r => .q (x.rack i r)
def rnextD : CDeal Rxi := ⟨fun y => [.ptr (.own 0 0 0 0), .int .i64 y.i], fun y => y.x.bs, fun y => y.x.ok && i64 y.i, fun y => nextV y.x.sx.l y.x.sx.n y.x.sx.b y.x.sx.m y.i, fun y => y.x.bs⟩
def rackD : CDeal Rxi := ⟨fun y => [.ptr (.own 0 0 0 0), .int .u64 y.i, .int .i64 y.r], fun y => y.x.bs, fun y => y.x.ok && (u64 y.i && i64 y.r), fun y => .int .i64 (ackE y.x.sx.n y.x.sx.k y.x.sx.b y.i y.r), fun y => (y.x.ack y.i y.r).bs⟩
def rnew1 : CDeal Int := ⟨fun n => [.int .i64 n], fun _ => [], newOk, fun _ => .ptr (.own 0 0 0 0), fun n => [rzBlk n 0 n]⟩
def rnew2 : CDeal Int := ⟨fun n => [.int .i64 n], fun _ => [], fun n => !newOk n, fun _ => .nilp, fun _ => []⟩
structure Ms where
  k : Int
  t : Int
def sameD : CDeal Ms := ⟨fun y => [msgV y.k y.t, msgV y.k y.t], fun _ => [], fun _ => true, fun _ => .bool true, fun _ => []⟩
def msO (us : List AVal) (_ : List Blk) : Option Ms := match us with
  | [.agg (.int _ k :: _ :: _ :: _ :: _ :: _ :: _ :: _ :: .int _ t :: _), _] => some ⟨k, t⟩
  | _ => none

/-! The loops. -/
def cntN (i : Nat) (b m : Int) : Int := if i = 0 then 0 else mayN i b m
structure Zn where
  k : Int
  b : Int
  m : Int
  i : Int
def znO (us : List AVal) (Bs : List Blk) : Option Zn := match us, Bs with
  | [_, .int _ i, _, _, _], [R, _] => match rxOf [R] with
    | some (.z k b m) => some ⟨k, b, m, i⟩
    | _ => none
  | _, _ => none
def znIns (i : Int) : List (Nat × AVal) := [(0, .ptr (.own 0 0 0 0)), (1, .int .i64 i), (5, .ptr (.own 1 0 0 0))]
def znD : RDeal Zn where
  ins y := znIns y.i ++ [(7, .int .i64 0), (8, .int .i64 0)]
  blks y := [rzBlk y.k y.b y.m, m0]
  pre y := okN 0 y.k y.b y.m
  alts := [⟨Unit, .exit 0, fun _ _ => True, fun y _ => znIns y.i ++ [(7, .int .i64 0)], fun y _ => [rzBlk y.k y.b y.m, m0]⟩]
structure Rn where
  x : Sd
  i : Int
def rnO (us : List AVal) (Bs : List Blk) : Option Rn := match us, Bs with
  | [_, .int _ i, _, _, _], [R, Q, _] => match rxOf [R, Q] with
    | some (.q x) => some ⟨x, i⟩
    | _ => none
  | _, _ => none
def rnIns (i : Int) : List (Nat × AVal) := [(0, .ptr (.own 0 0 0 0)), (1, .int .i64 i), (5, .ptr (.own 2 0 0 0))]
def Rn.bs (y : Rn) : List Blk := [y.x.rblk 1, Qb y.x.ts, m0]
def rnD : RDeal Rn where
  ins y := rnIns y.i ++ [(7, .int .i64 0), (8, .int .i64 0)]
  blks := Rn.bs
  pre y := okSd y.x
  alts := [⟨Unit, .exit 0, fun _ _ => True, fun y _ => rnIns y.i ++ [(7, .int .i64 (cntN y.x.n y.x.b y.x.m))], fun y _ => y.bs⟩]
def pRN : List Bool := [false, true, false, true, true]
def T13z : Tolds := sumT 13 pRN (toldR 58 znD [0, 1, 5, 7, 8] znO) noT
def T13q : Tolds := sumT 13 pRN (toldR 58 rnD [0, 1, 5, 7, 8] rnO) noT

def raIns (i r : Int) : List (Nat × AVal) := [(0, .ptr (.own 0 0 0 0)), (1, .int .u64 i), (2, .int .i64 r)]
def Sd.moved (x : Sd) (i : Int) : Sd := ⟨x.ts, x.o + gone x.b i, x.n - gone x.b i, none, x.k, maxI x.b i, x.m⟩
structure Zi where
  k : Int
  b : Int
  m : Int
  i : Int
  r : Int
structure Qi where
  x : Sd
  i : Int
  r : Int
def ziO (us : List AVal) (Bs : List Blk) : Option Zi := match us, rxOf Bs with
  | [_, .int _ i, .int _ r], some (.z k b m) => some ⟨k, b, m, i, r⟩
  | _, _ => none
def qiO (us : List AVal) (Bs : List Blk) : Option Qi := match us, rxOf Bs with
  | [_, .int _ i, .int _ r], some (.q x) => some ⟨x, i, r⟩
  | _, _ => none
def zaD : RDeal Zi where
  ins y := raIns y.i y.r
  blks y := [rzBlk y.k y.b y.m]
  pre y := decide (y.i ≤ y.b)
  alts := [⟨Unit, .exit 0, fun _ _ => True, fun y _ => raIns y.i y.r, fun y _ => [rzBlk y.k y.b y.m]⟩]
def raD : RDeal Qi where
  ins y := raIns y.i y.r
  blks y := [y.x.rblk 1, Qb y.x.ts]
  pre y := okSd y.x && (decide (y.x.c = none) && decide (y.i ≤ y.x.b + y.x.n))
  alts := [⟨Unit, .exit 0, fun _ _ => True, fun y _ => raIns y.i y.r, fun y _ => [(y.x.moved y.i).rblk 1, Qb y.x.ts]⟩]
def pRA : List Bool := [false, false, true, true]
def T16z : Tolds := sumT 16 pRA (toldR 65 zaD [0, 1, 2] ziO) noT
def T16q : Tolds := sumT 16 pRA (toldR 65 raD [0, 1, 2] qiO) noT

def S3 : Sums := sumF 14 (callG sameD msO) (sumF 16 (callG rackD rxi) (sumF 13 (callG rnextD rxi) (sumF 8 (call2G rnew1 rnew2 newOk oneI) S2)))

end Go.Proofs.Ytoahbijmemgghaa
