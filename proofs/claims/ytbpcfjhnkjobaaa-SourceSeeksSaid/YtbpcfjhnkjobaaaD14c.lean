/- source: SourcePlays: the steps' loop. -/
import Derived.Test.YtbpcfjhnkjobaaaD14b
namespace Go.Proofs.Ytbpcfjhnkjobaaa
open Ab

/-- what goes through the loop: the steps, both latenesses, which of them -/
structure Thr where
  V : AVal
  a : Int
  b : Int
  j : Int
def itV (full : Bool) (i m : Nat) : AVal := match full with
  | true => sl i m
  | false => .nils
def itB (full : Bool) (it : Items) : List Blk := match full with
  | true => [it.blk]
  | false => []
/-- items, and both sources, without items and with them -/
def bothB (full : Bool) (it : Items) (y : Sr) : List Blk := match full with
  | true => [it.blk, y.cells (sl 3 y.it.im.length), y.cells (sl 4 y.it.im.length), y.it.blk, y.it.blk]
  | false => [y.cells .nils, y.cells (zl 2), zBlk]
def bothP (full : Bool) : List (Nat × AVal) := match full with
  | true => [(10, .ptr (.own 1 0 0 0)), (11, .ptr (.own 2 0 0 0))]
  | false => [(10, .ptr (.own 0 0 0 0)), (11, .ptr (.own 1 0 0 0))]
def Thr.ts (x : Thr) (full : Bool) (it : Items) : List (Nat × AVal) := [(2, x.V), (7, itV full 0 it.im.length), (24, .agg [.int .i64 x.a, .int .i64 x.b]), (25, .int .i64 x.j)]

inductive Pl
  | b (x : Thr) (full : Bool) (it : Items) (y : Sr)
  | o (x : Thr) (full : Bool) (it : Items)
def plIns : Pl → List (Nat × AVal)
  | .b x full it _ => x.ts full it ++ (bothP full ++ [(12, .int .i64 0)])
  | .o x full it => x.ts full it ++ [(10, .nilp), (11, .nilp), (12, .int .i64 0)]
def plBlks : Pl → List Blk
  | .b _ full it y => bothB full it y
  | .o _ full it => itB full it
def plO (us : List AVal) (Bs : List Blk) : Option Pl := match us with
  | [V, _, .ptr _, _, _, .agg [.int _ a, .int _ b], .int _ j] => match Bs with
    | [I, A, _, J, _] => match itemsOf I, itemsOf J with
      | some it, some it' => match srOf it' A with
        | some (_, y) => some (.b ⟨V, a, b, j⟩ true it y)
        | none => none
      | _, _ => none
    | [A, _, _] => match srOf .none A with
      | some (_, y) => some (.b ⟨V, a, b, j⟩ false .none y)
      | none => none
    | _ => none
  | [V, _, .nilp, _, _, .agg [.int _ a, .int _ b], .int _ j] => match Bs with
    | [I] => match itemsOf I with
      | some it => some (.o ⟨V, a, b, j⟩ true it)
      | none => none
    | [] => some (.o ⟨V, a, b, j⟩ false .none)
    | _ => none
  | _ => none
def okBoth (full : Bool) (y : Sr) : Bool := okSr y && match full with
  | true => true
  | false => y.it.im.isEmpty
def plD (T : Tb) : RDeal Pl where
  ins := plIns
  blks := plBlks
  pre
    | .b x full it y => okV 1 T.st.length x.V && (okBoth full y && decide (it.im.length ≤ 1002))
    | .o x _ _ => okV 1 T.st.length x.V
  alts := [⟨Unit, .exit 2, fun _ _ => True, fun y _ => match y with
    | .b x full it _ => x.ts full it
    | .o x full it => x.ts full it, fun y _ => match y with
    | .b _ full it _ => itB full it
    | .o _ full it => itB full it⟩]
/-- both are alike -/
structure Ak where
  full : Bool
  y : Sr
def Ak.blks (x : Ak) : List Blk := match x.full with
  | true => [x.y.cells (sl 2 x.y.it.im.length), x.y.cells (sl 3 x.y.it.im.length), x.y.it.blk, x.y.it.blk]
  | false => [x.y.cells .nils, x.y.cells (zl 2), zBlk]
def akO (_ : List AVal) (Bs : List Blk) : Option Ak := match Bs with
  | [A, _, J, _] => match itemsOf J with
    | some it => match srOf it A with
      | some (_, y) => some ⟨true, y⟩
      | none => none
    | none => none
  | [A, _, _] => match srOf .none A with
    | some (_, y) => some ⟨false, y⟩
    | none => none
  | _ => none
def alikeD : CDeal Ak := ⟨fun _ => [.ptr (.own 0 0 0 0), .ptr (.own 1 0 0 0)], Ak.blks, fun x => okBoth x.full x.y, fun _ => .bool true, Ak.blks⟩
def S4 (T : Tb) : Sums := sumF 15 (callG alikeD akO) (S3 T)

def pL : List Bool := [false, true, true, true, true, false, false, true, true, false, false, true, false, true, true]
def pO : List Bool := [false, true, false, true, true]
def TP (T : Tb) : Tolds := sumT 3 pL (toldR 100 (plD T) [2, 7, 10, 11, 12, 24, 25] plO) noT

end Go.Proofs.Ytbpcfjhnkjobaaa
