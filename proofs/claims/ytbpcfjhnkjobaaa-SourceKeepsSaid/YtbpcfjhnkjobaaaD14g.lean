/- source: SourceKeeps: the rest of a round behind Next. -/
import Derived.Test.YtbpcfjhnkjobaaaD14f
namespace Go.Proofs.Ytbpcfjhnkjobaaa
open Ab

/-- with items: what Next gave, and its kind -/
structure Kb where
  it : Items
  m : Nat
  y : Sr
  l : Int
  f : Int
  i : Int
  r : Rec6
  k : Int
def Kb.o (x : Kb) : One := ⟨true, x.it, x.m, x.y⟩
def Kb.ins (x : Kb) : List (Nat × AVal) := Kp.at ⟨⟨true, x.it, x.m, x.y⟩, x.l⟩ x.f x.i ++ [(9, .ptr (.own 2 0 0 0)), (10, .int .i64 x.k)]
def Kb.blks (x : Kb) : List Blk := [x.it.blk, x.y.cells (sl 3 x.y.it.im.length), x.r.blk, x.y.it.blk]
def recOf : Blk → Option Rec6
  | .segs [⟨_, _, [.int _ [key]]⟩, ⟨_, _, [.int _ [time]]⟩, ⟨_, _, [.int _ [val]]⟩, ⟨_, _, [.int _ [side]]⟩, ⟨_, _, [.bool [err]]⟩, ⟨_, _, [.bool [late]]⟩] => some ⟨key, time, val, side, err, late⟩
  | _ => none
def kbO (us : List AVal) (Bs : List Blk) : Option Kb := match us, Bs with
  | [.int _ l, .slice _ m _, _, .int _ f, .int _ i, _, .int _ k], [I, A, R, J] => match itemsOf I, itemsOf J, recOf R with
    | some it, some it', some r => match srOf it' A with
      | some (_, y) => some ⟨it, m, y, l, f, i, r, k⟩
      | none => none
    | _, _, _ => none
  | _, _ => none

def Kb.im (x : Kb) : Bool := x.it.im.getD x.i.toNat false
def Kb.tm (x : Kb) : Int := x.it.tm.getD x.i.toNat 0
def Kb.rt (x : Kb) : Int := x.it.rt.getD x.i.toNat 0
def lgl4 (x : Kb) : Bool := decide (x.y.f = far) && (x.y.over && (decide (x.i = x.m) || (x.im && decide (x.tm = far))))
def lgl3 (x : Kb) : Bool := decide (x.i < x.m) && (x.im && (decide (x.y.f = x.f) || decide (x.y.f = wr .i64 (x.tm - wr .i64 (Int.tmod x.l 51)))))
def lglR (x : Kb) : Bool := decide (x.i < x.m) && (!x.im && (decide (x.y.f = x.f) && (decide (x.r.key = x.it.ky.getD x.i.toNat 0) && decide (x.r.side = x.it.sd.getD x.i.toNat 0))))
def lgl2 (x : Kb) : Bool := lglR x && (decide (x.r.time = x.f) && (decide (x.r.err = outT x.rt) && (decide (x.r.late = !outT x.rt) && if outT x.rt = true then decide (x.r.val = 0) else decide (x.rt < x.f) && decide (x.r.val = x.it.vl.getD x.i.toNat 0))))
def lgl1 (x : Kb) : Bool := lglR x && (decide (x.r.time = x.rt) && (!outT x.rt && (!decide (x.rt < x.f) && (!x.r.err && (!x.r.late && decide (x.r.val = x.it.vl.getD x.i.toNat 0))))))
def isNo (r : Rec6) : Bool := decide (r.key = 0) && (decide (r.time = 0) && (decide (r.val = 0) && (decide (r.side = 0) && (!r.err && !r.late))))
def lgl (x : Kb) : Bool := okSr x.y && (decide (x.m ≤ x.it.im.length) && (decide (0 ≤ x.i) && (decide (x.i ≤ x.m) && (decide (x.y.pl = wr .i64 (x.i + 1)) && (decide (x.f ≤ x.y.f) &&
  if x.k = 4 then isNo x.r && lgl4 x else if x.k = 3 then isNo x.r && lgl3 x else if x.k = 2 then lgl2 x else decide (x.k = 1) && lgl1 x)))))
def kbD : RDeal Kb where
  ins := Kb.ins
  blks := Kb.blks
  pre := lgl
  alts := [⟨Unit, .ret, fun _ _ => True, fun _ _ => [(4, .bool true)], fun _ _ => []⟩, ⟨Unit, .normal, fun x _ => x.k ≠ 4, fun x _ => Kp.at ⟨⟨true, x.it, x.m, x.y⟩, x.l⟩ x.y.f x.i, fun x _ => One.blks ⟨true, x.it, x.m, x.y⟩⟩]
def pB : List Bool := [true, false, false, true, false, false, true, false, true, true, true, true, true, true, true]
def TKB : Tolds := sumT 4 pB (toldR 235 kbD [1, 5, 6, 7, 8, 9, 10] kbO) noT

end Go.Proofs.Ytbpcfjhnkjobaaa
