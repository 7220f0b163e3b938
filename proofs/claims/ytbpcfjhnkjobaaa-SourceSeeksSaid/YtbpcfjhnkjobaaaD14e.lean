/- source: the laws that do not ask the document's answer: contracts of their loops. -/
import Derived.Test.YtbpcfjhnkjobaaaD14c
namespace Go.Proofs.Ytbpcfjhnkjobaaa
open Ab

def sameI (a b : Items) : Bool := decide (a.im = b.im) && (decide (a.tm = b.tm) && (decide (a.ky = b.ky) && (decide (a.rt = b.rt) && (decide (a.vl = b.vl) && (decide (a.sd = b.sd) && (decide (a.er = b.er) && decide (a.lt = b.lt)))))))

/-- items (so many of them), a source of them -/
structure One where
  full : Bool
  it : Items
  m : Nat
  y : Sr
def One.blks (x : One) : List Blk := match x.full with
  | true => [x.it.blk, x.y.cells (sl 2 x.y.it.im.length), x.y.it.blk]
  | false => [x.y.cells .nils]
def One.ptr (x : One) : AVal := match x.full with
  | true => .ptr (.own 1 0 0 0)
  | false => .ptr (.own 0 0 0 0)
def okOne (x : One) : Bool := okBoth x.full x.y && (sameI x.y.it (x.it.take x.m) && decide (x.y.it.im.length = x.m))
def oneOf (V : AVal) (Bs : List Blk) : Option One := match V, Bs with
  | .slice _ m _, [I, A, J] => match itemsOf I, itemsOf J with
    | some it, some it' => match srOf it' A with
      | some (_, y) => some ⟨true, it, m, y⟩
      | none => none
    | _, _ => none
  | .nils, [A] => match srOf .none A with
    | some (_, y) => some ⟨false, .none, 0, y⟩
    | none => none
  | _, _ => none

structure Kp where
  o : One
  l : Int
def Kp.at (x : Kp) (f i : Int) : List (Nat × AVal) := [(1, .int .u8 x.l), (5, itV x.o.full 0 x.o.m), (6, x.o.ptr), (7, .int .i64 f), (8, .int .i64 i)]
def kpO (us : List AVal) (Bs : List Blk) : Option Kp := match us with
  | [.int _ l, V, _, _, _] => match oneOf V Bs with
    | some o => some ⟨o, l⟩
    | none => none
  | _ => none
def kpD : RDeal Kp where
  ins x := x.at 0 0
  blks x := x.o.blks
  pre x := okOne x.o && (decide (x.o.y.late = Int.tmod x.l 51) && (decide (x.o.y.f = 0) && (decide (x.o.y.pl = 0) && !x.o.y.over)))
  alts := [⟨Unit, .ret, fun _ _ => True, fun _ _ => [(4, .bool true)], fun _ _ => []⟩]
def pK : List Bool := [false, true, false, true, true, true, true, true, true, true]
def TK : Tolds := sumT 4 pK (toldR 235 kpD [1, 5, 6, 7, 8] kpO) noT

/-- two sources of the same items -/
structure Two where
  full : Bool
  it : Items
  m : Nat
  y : Sr
  z : Sr
def Two.blks (x : Two) : List Blk := match x.full with
  | true => [x.it.blk, x.y.cells (sl 3 x.y.it.im.length), x.z.cells (sl 4 x.y.it.im.length), x.y.it.blk, x.y.it.blk]
  | false => [x.y.cells .nils, x.z.cells .nils]
def Two.at (x : Two) (i : Int) : List (Nat × AVal) := [(5, itV x.full 0 x.m), (6, match x.full with
  | true => .ptr (.own 1 0 0 0)
  | false => .ptr (.own 0 0 0 0)), (7, match x.full with
  | true => .ptr (.own 2 0 0 0)
  | false => .ptr (.own 1 0 0 0)), (8, .int .i64 i)]
def twoO (us : List AVal) (Bs : List Blk) : Option Two := match us, Bs with
  | [.slice _ m _, _, _, _], [I, A, B, J, _] => match itemsOf I, itemsOf J with
    | some it, some it' => match srOf it' A, srOf it' B with
      | some (_, y), some (_, z) => some ⟨true, it, m, y, z⟩
      | _, _ => none
    | _, _ => none
  | [.nils, _, _, _], [A, B] => match srOf .none A, srOf .none B with
    | some (_, y), some (_, z) => some ⟨false, .none, 0, y, z⟩
    | _, _ => none
  | _, _ => none
def okTwo (x : Two) : Bool := okBoth x.full x.y && (okBoth x.full x.z && (sameI x.z.it x.y.it && (decide (x.y.it.im.length = x.m))))
def twD : RDeal Two where
  ins x := x.at 0
  blks := Two.blks
  pre x := okTwo x && (decide (x.y.late ≤ x.z.late) && (decide (x.y.f = 0) && (decide (x.y.pl = 0) && (!x.y.over && (decide (x.z.f = 0) && (decide (x.z.pl = 0) && !x.z.over))))))
  alts := [⟨Unit, .exit 0, fun _ _ => True, fun _ _ => [], fun _ _ => []⟩]
def pT : List Bool := [false, true, false, true, true, true, true, true, true]
def TT : Tolds := sumT 7 pT (toldR 133 twD [5, 6, 7, 8] twoO) noT

end Go.Proofs.Ytbpcfjhnkjobaaa
