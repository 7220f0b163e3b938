/- front: FrontRises: contracts of its loops. -/
import Derived.Test.YtnnbbjfbhigcfaaD23
namespace Go.Proofs.Ytnnbbjfbhigcfaa
open Ab

def okV (T : Tb) : AVal → Bool
  | .nils => true
  | .slice (.ro 0 0 0 0) n none => decide (n = T.w.length)
  | _ => false
def inT (v : Int) : Bool := decide (0 ≤ v) && decide (v ≤ 1152921504606846976)
/-- marks that may be, and what was told -/
def okM (x : Fr) : Bool := okFr x && (x.c.all inT && inT x.t)
def allGe (l : List Int) (a : Int) : Bool := l.all fun v => decide (a ≤ v)
def allIs (x : Fr) : Bool := x.l.all fun v => decide (v = 1152921504606846976)

structure R1 where
  V : AVal
  x : Fr
  lo : Int
def r1D (T : Tb) : RDeal R1 where
  ins y := [(1, y.V), (5, .int .i64 y.x.n), (6, .ptr (.own 0 0 0 0)), (7, .int .i64 y.lo), (8, .int .i64 y.x.t), (9, .int .i64 0)]
  blks y := [y.x.blk]
  pre y := okV T y.V && (okM y.x && decide (y.lo ≤ minF y.x))
  alts := [⟨Fr, .exit 0, fun y x' => okM x' = true ∧ x'.n = y.x.n, fun y _ => [(5, .int .i64 y.x.n), (6, .ptr (.own 0 0 0 0))], fun _ x' => [x'.blk]⟩]
def r1O (us : List AVal) (Bs : List Blk) : Option R1 := match us, Bs with
  | [V, _, _, .int _ lo, _, _], [B] => match frOf B with
    | some x => some ⟨V, x, lo⟩
    | none => none
  | _, _ => none

structure R2 where
  n : Nat
  x : Fr
  lo : Int
  i : Int
  s : Sl
  a : Int
def r2Ins (y : R2) : List (Nat × AVal) := [(1, .slice (.ro 0 0 0 0) y.n none), (5, .int .i64 y.x.n), (6, .ptr (.own 0 0 0 0)), (7, .int .i64 y.lo), (9, .int .i64 y.i), (10, y.s.v), (11, .int .i64 y.a)]
def r2D : RDeal R2 where
  ins y := r2Ins y ++ [(13, .int .i64 0)]
  blks y := [y.x.blk]
  pre y := okFr y.x && allGe y.x.l y.a
  alts := [⟨Unit, .exit 2, fun _ _ => True, fun y _ => r2Ins y, fun y _ => [y.x.blk]⟩]
def r2O (us : List AVal) (Bs : List Blk) : Option R2 := match us, Bs with
  | [.slice _ n _, _, _, .int _ lo, .int _ i, s, .int _ a, _], [B] => match frOf B, slOf s with
    | some x, some s => some ⟨n, x, lo, i, s, a⟩
    | _, _ => none
  | _, _ => none
def r3D (T : Tb) : RDeal R2 where
  ins y := r2Ins y ++ [(14, .int .i64 0)]
  blks y := [y.x.blk]
  pre y := okS T y.s && allGe (y.s.l T) y.a
  alts := [⟨Unit, .exit 4, fun _ _ => True, fun y _ => [(1, .slice (.ro 0 0 0 0) y.n none), (5, .int .i64 y.x.n), (6, .ptr (.own 0 0 0 0)), (7, .int .i64 y.lo), (9, .int .i64 y.i), (11, .int .i64 y.a)], fun y _ => [y.x.blk]⟩]

def r4D : RDeal Fr where
  ins x := [(5, .int .i64 x.n), (6, .ptr (.own 0 0 0 0)), (15, .int .i64 0)]
  blks x := [x.blk]
  pre := okM
  alts := [⟨Fr, .exit 6, fun x x' => okM x' = true ∧ allIs x' = true ∧ x'.t = x.t ∧ x'.n = x.n, fun _ _ => [(6, .ptr (.own 0 0 0 0))], fun _ x' => [x'.blk]⟩]

def p1 : List Bool := [false, true, false, true, true, true, true, true, true]
def p2 : List Bool := [false, true, false, false, true, false, true, true, true, true, true, true, false, false, true, false, false, true, false, true, true, true, true, true, true]
def p3 : List Bool := [false, true, true, false, true, false, true, true, true, true, true, true, false, false, true, false, false, true, false, true, true, true, true, true, true]
def p4 : List Bool := [false, true, false, true, true, true, true, true, true, true]
def TI (T : Tb) : Tolds := sumT 3 p2 (toldR 128 r2D [1, 5, 6, 7, 9, 10, 11, 13] r2O) (sumT 3 p3 (toldR 128 (r3D T) [1, 5, 6, 7, 9, 10, 11, 14] r2O) noT)
def TO (T : Tb) : Tolds := sumT 3 p1 (toldR 128 (r1D T) [1, 5, 6, 7, 8, 9] r1O) (sumT 3 p4 (toldR 128 r4D [5, 6, 15] fr1) noT)

end Go.Proofs.Ytnnbbjfbhigcfaa
