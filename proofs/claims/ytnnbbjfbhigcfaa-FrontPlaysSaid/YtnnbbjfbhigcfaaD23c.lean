/- front: FrontOrder: contracts of its loops. -/
import Derived.Test.YtnnbbjfbhigcfaaD23b
namespace Go.Proofs.Ytnnbbjfbhigcfaa
open Ab

def stepM (v a : Int) : Int := if a < v ∨ 1152921504606846976 < a then v else a
def chan (T : Tb) (N : Int) (i : Nat) : Int := Int.tmod (wr .i64 (T.w.getD i 0)) N
/-- a channel's mark behind the first acts -/
def acc (T : Tb) (N : Int) (k : Nat) : Nat → Int
  | 0 => 0
  | i + 1 => if chan T N i = k then stepM (acc T N k i) (T.a.getD i 0) else acc T N k i
def wantL (T : Tb) (N : Int) (i : Nat) : List Int := (List.range N.toNat).map fun k => acc T N k i
def lowL (T : Tb) (N : Int) (m c : Nat) : List Int := (List.range N.toNat).map fun k => if k < c then 0 else acc T N k m
def innL (T : Tb) (N : Int) (m c i : Nat) : List Int := (List.range N.toNat).map fun k => if k < c then 0 else if k = c then acc T N c i else acc T N k m

def lenV : AVal → Nat
  | .slice _ n _ => n
  | _ => 0
def okVm (T : Tb) : AVal → Bool
  | .nils => true
  | .slice (.ro 0 0 0 0) n none => decide (n ≤ T.w.length) && decide (n ≤ 60)
  | _ => false
def st (N : Int) (x : Fr) (l : List Int) : Bool := okFr x && (decide (x.n = N) && (decide (x.t = 0) && decide (x.l = l)))

structure RA where
  V : AVal
  N : Int
  c : Int
  x : Fr
  y : Fr
def raI (a : RA) : List (Nat × AVal) := [(1, a.V), (5, .int .i64 a.N), (6, .ptr (.own 0 0 0 0)), (7, .ptr (.own 1 0 0 0))]
def raO (us : List AVal) (Bs : List Blk) : Option RA := match us, Bs with
  | [V, .int _ N, _, _, .int _ c], [A, B] => match frOf A, frOf B with
    | some x, some y => some ⟨V, N, c, x, y⟩
    | _, _ => none
  | [V, .int _ N, _, _, .int _ c, _], [A, B] => match frOf A, frOf B with
    | some x, some y => some ⟨V, N, c, x, y⟩
    | _, _ => none
  | _, _ => none
def raB (a : RA) : List Blk := [a.x.blk, a.y.blk]
def raD (T : Tb) : RDeal RA where
  ins a := raI a ++ [(8, .int .i64 0)]
  blks := raB
  pre a := okVm T a.V && (st a.N a.x (wantL T a.N 0) && st a.N a.y (wantL T a.N 0))
  alts := [⟨Fr, .exit 0, fun a x' => st a.N x' (wantL T a.N (lenV a.V)) = true, fun a _ => raI a, fun a x' => [x'.blk, a.y.blk]⟩]
def rbD (T : Tb) : RDeal RA where
  ins a := raI a ++ [(9, .int .i64 (wr .i64 (a.N - 1)))]
  blks := raB
  pre a := okVm T a.V && (okFr a.x && st a.N a.y (wantL T a.N 0))
  alts := [⟨Fr, .exit 2, fun a y' => st a.N y' (wantL T a.N (lenV a.V)) = true, fun a _ => [(5, .int .i64 a.N), (6, .ptr (.own 0 0 0 0)), (7, .ptr (.own 1 0 0 0))], fun a y' => [a.x.blk, y'.blk]⟩]
def rcD (T : Tb) : RDeal RA where
  ins a := raI a ++ [(9, .int .i64 a.c), (10, .int .i64 0)]
  blks := raB
  pre a := okVm T a.V && (okFr a.x && (decide (0 ≤ a.c) && (decide (a.c < a.N) && st a.N a.y (lowL T a.N (lenV a.V) (a.c.toNat + 1)))))
  alts := [⟨Fr, .exit 4, fun a y' => st a.N y' (lowL T a.N (lenV a.V) a.c.toNat) = true, fun a _ => raI a ++ [(9, .int .i64 a.c)], fun a y' => [a.x.blk, y'.blk]⟩]

def rowI (n : Nat) (l : List Int) : Blk := .segs [⟨n, 1, [.int .i64 l]⟩]
def marksD : CDeal Fr := ⟨fun _ => [.ptr (.own 0 0 0 0)], fun x => [x.blk], okFr, fun x => .slice (.own 1 0 0 1) x.n.toNat none, fun x => [x.blk, rowI x.n.toNat x.l]⟩
structure RE where
  N : Int
  x : Fr
  y : Fr
  lx : List Int
  ly : List Int
def reO (us : List AVal) (Bs : List Blk) : Option RE := match us, Bs with
  | [.int _ N, _, _, _, _, _, _], [A, B, .segs [⟨_, _, [.int _ l]⟩], .segs [⟨_, _, [.int _ l']⟩]] => match frOf A, frOf B with
    | some x, some y => some ⟨N, x, y, l, l'⟩
    | _, _ => none
  | _, _ => none
def reI (a : RE) (m : Int) : List (Nat × AVal) := [(5, .int .i64 a.N), (6, .ptr (.own 0 0 0 0)), (7, .ptr (.own 1 0 0 0)), (11, .slice (.own 2 0 0 1) a.N.toNat none), (12, .slice (.own 3 0 0 1) a.N.toNat none), (13, .int .i64 m)]
def reB (a : RE) : List Blk := [a.x.blk, a.y.blk, rowI a.N.toNat a.lx, rowI a.N.toNat a.ly]
def reD : RDeal RE where
  ins a := reI a 1152921504606846976 ++ [(14, .int .i64 0)]
  blks := reB
  pre a := okFr a.x && (decide (a.x.n = a.N) && (okFr a.y && (decide (a.lx = a.x.l) && decide (a.ly = a.x.l))))
  alts := [⟨Unit, .exit 6, fun _ _ => True, fun a _ => [(6, .ptr (.own 0 0 0 0)), (7, .ptr (.own 1 0 0 0)), (13, .int .i64 (leastL 1152921504606846976 a.x.l))], fun a _ => [a.x.blk, a.y.blk]⟩]

def S4 (T : Tb) : Sums := sumF 14 (callG marksD fr1) (S3 T)
def q1 : List Bool := [false, true, false, true, true, true, true, true, true]
def q2 : List Bool := [false, true, false, true, true, true, true, true, true, true]
def q3 : List Bool := [false, true, false, false, true, false, false, true, false, true, true, true, true, true, true, true]
def q4 : List Bool := [false, true, false, true, true, true, true, true, true, true, true, true, true]
def TC (T : Tb) : Tolds := sumT 4 q3 (toldR 178 (rcD T) [1, 5, 6, 7, 9, 10] raO) noT
def TA (T : Tb) : Tolds := sumT 4 q1 (toldR 178 (raD T) [1, 5, 6, 7, 8] raO) (sumT 4 q2 (toldR 178 (rbD T) [1, 5, 6, 7, 9] raO) (sumT 4 q4 (toldR 178 reD [5, 6, 7, 11, 12, 13, 14] reO) noT))

end Go.Proofs.Ytnnbbjfbhigcfaa
