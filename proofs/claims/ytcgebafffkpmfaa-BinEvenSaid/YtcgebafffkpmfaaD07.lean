/- bins: BinEven: contracts. -/
import Derived.Test.YtcgebafffkpmfaaH07
import Derived.Test.YtcgebafffkpmfaaB07
import Derived.Test.YtcgebafffkpmfaaE31
namespace Go.Proofs.Ytcgebafffkpmfaa
open Ab

def rowI (n : Nat) (l : List Int) : Blk := .segs [⟨n, 1, [.int .i64 l]⟩]
def zerosI (n : Nat) : List Int := List.replicate n 0
def intO (us : List AVal) (_ : List Blk) : Option Int := match us with
  | [.int _ n] => some n
  | _ => none
def binV (x : Int) : Int := wr .i64 (Int.fdiv (wr .u32 (x * 2654435761)) 536870912)
def ofD : CDeal Int := ⟨fun x => [.int .u32 x], fun _ => [], fun _ => true, fun x => .int .i64 (binV x), fun _ => []⟩
def S1 : Sums := sumF 6 (callG ofD intO) (sumF 5 (callG trueD fun _ _ => some ()) noS)

def evenL (l : List Int) : Bool := decide (l.length = 8) && l.all fun v => decide (5 ≤ v) && decide (v ≤ 11)

structure K1 where
  key : Int
  a : Int
  m : Int
  l : List Int
def k1O (us : List AVal) (Bs : List Blk) : Option K1 := match us, Bs with
  | [.int _ k, .int _ a, .int _ m, _, _], [.segs [⟨_, _, [.int _ l]⟩]] => some ⟨k, a, m, l⟩
  | _, _ => none
def k1D : RDeal K1 where
  ins y := [(0, .int .u32 y.key), (1, .int .u8 y.a), (2, .int .u8 y.m), (7, .ptr (.own 0 0 0 0)), (8, .int .u32 0)]
  blks y := [rowI 8 y.l]
  pre y := decide (0 ≤ y.key) && (decide (y.key < 4294967296) && decide (y.l = zerosI 8))
  alts := [⟨List Int, .exit 0, fun _ l => evenL l = true, fun y _ => [(1, .int .u8 y.a), (2, .int .u8 y.m), (7, .ptr (.own 0 0 0 0))], fun _ l => [rowI 8 l]⟩]
def k2O (us : List AVal) (Bs : List Blk) : Option K1 := match us, Bs with
  | [.int _ a, .int _ m, _, _], [.segs [⟨_, _, [.int _ l]⟩]] => some ⟨0, a, m, l⟩
  | _, _ => none
def k2D : RDeal K1 where
  ins y := [(1, .int .u8 y.a), (2, .int .u8 y.m), (7, .ptr (.own 0 0 0 0)), (10, .int .i64 0)]
  blks y := [rowI 8 y.l]
  pre y := evenL y.l
  alts := [⟨Unit, .exit 2, fun _ _ => True, fun y _ => [(1, .int .u8 y.a), (2, .int .u8 y.m)], fun _ _ => []⟩]
structure K3 where
  w : Int
  m : Int
def k3O (us : List AVal) (_ : List Blk) : Option K3 := match us with
  | [.int _ m, .int _ w] => some ⟨w, m⟩
  | _ => none
def k3D : RDeal K3 where
  ins y := [(2, .int .u8 y.m), (11, .int .i64 y.w)]
  blks _ := []
  pre y := decide (1 ≤ y.w) && (decide (y.w ≤ 3) && (decide (0 ≤ y.m) && decide (y.m < 256)))
  alts := [⟨Unit, .ret, fun _ _ => True, fun _ _ => [(6, .bool true)], fun _ _ => []⟩]
structure K4 where
  w : Int
  n : Nat
  h : List Int
  t : List Int
  l : List Int
def hasOf (w : Int) : List Int := if w = 1 then [0, 8, 0, 0] else if w = 2 then [0, 4, 4, 0] else [0, 3, 3, 2]
def k4O (us : List AVal) (Bs : List Blk) : Option K4 := match us, Bs with
  | [.int _ w, _, _, .slice _ n _], [.segs [⟨_, _, [.int _ h]⟩], .segs [⟨_, _, [.int _ t]⟩], .segs [⟨_, _, [.int _ l]⟩]] => some ⟨w, n, h, t, l⟩
  | _, _ => none
def k4I (y : K4) : List (Nat × AVal) := [(11, .int .i64 y.w), (12, .ptr (.own 0 0 0 0)), (15, .ptr (.own 1 0 0 0)), (16, .slice (.own 2 0 0 1) y.n (some y.n))]
def k4B (y : K4) : List Blk := [rowI 4 y.h, rowI 4 y.t, rowI y.n y.l]
def k4P (y : K4) : Bool := decide (1 ≤ y.w) && (decide (y.w ≤ 3) && (decide (y.n < 30) && (decide (y.h = hasOf y.w) && (decide (y.t = zerosI 4) && decide (y.l = zerosI y.n)))))
def k4D : RDeal K4 where
  ins := k4I
  blks := k4B
  pre := k4P
  alts := [⟨Unit, .ret, fun _ _ => True, fun _ _ => [(6, .bool true)], fun _ _ => []⟩]

/-- workers by turns -/
def turnsL (w n : Nat) : List Int := (List.range n).map fun i => ((i % w + 1 : Nat) : Int)
structure K7 where
  n : Nat
  l : List Int
  w : Nat
  to : List Int
def k7O (us : List AVal) (Bs : List Blk) : Option K7 := match us, Bs with
  | [.slice _ n _, .slice _ w _], [.segs [⟨_, _, [.int _ l]⟩], .segs [⟨_, _, [.int _ to]⟩]] => some ⟨n, l, w, to⟩
  | _, _ => none
def k7A (y : K7) : List AVal := [.slice (.own 0 0 0 1) y.n (some y.n), .slice (.own 1 0 0 1) y.w none]
def k7B (y : K7) : List Blk := [rowI y.n y.l, rowI y.w y.to]
def k7P (y : K7) : Bool := decide (1 ≤ y.w) && (decide (y.w ≤ 3) && (decide (y.n < 30) && (decide (y.to = turnsL y.w y.w) && decide (y.l = zerosI y.n))))
def noN (y : K7) : Bool := Nat.beq y.n 0
def turns0 : CDeal K7 := ⟨k7A, k7B, fun y => k7P y && noN y, fun _ => .nils, k7B⟩
def turns1 : CDeal K7 := ⟨k7A, k7B, fun y => k7P y && !noN y, fun y => .slice (.own 2 0 0 1) y.n none, fun y => k7B y ++ [rowI y.n (turnsL y.w y.n)]⟩
def S2 : Sums := sumF 8 (call2G turns0 turns1 noN k7O) S1

/-- how often each number stands in a list -/
def cntT (l : List Int) : List Int := (List.range 4).map fun j => ((l.countP fun v => decide (v = ((j : Nat) : Int)) : Nat) : Int)
structure K8 where
  w : Int
  n : Nat
  h : List Int
  t : List Int
  b : List Int
  V : AVal
  l : List Int
def k8O (us : List AVal) (Bs : List Blk) : Option K8 := match us, Bs with
  | [.int _ w, _, _, .slice _ n _, V, _], [.segs [⟨_, _, [.int _ h]⟩], .segs [⟨_, _, [.int _ t]⟩], .segs [⟨_, _, [.int _ b]⟩]] => some ⟨w, n, h, t, b, V, []⟩
  | [.int _ w, _, _, .slice _ n _, V, _], [.segs [⟨_, _, [.int _ h]⟩], .segs [⟨_, _, [.int _ t]⟩], .segs [⟨_, _, [.int _ b]⟩], .segs [⟨_, _, [.int _ l]⟩]] => some ⟨w, n, h, t, b, V, l⟩
  | _, _ => none
def k8I (y : K8) : List (Nat × AVal) := [(11, .int .i64 y.w), (12, .ptr (.own 0 0 0 0)), (15, .ptr (.own 1 0 0 0)), (16, .slice (.own 2 0 0 1) y.n (some y.n)), (19, y.V)]
def k8R (y : K8) : List Blk := match y.V with
  | .nils => []
  | _ => [rowI y.n y.l]
def okT (l : List Int) : Bool := l.all fun v => decide (0 ≤ v) && decide (v ≤ 3)
def k8V (y : K8) : Bool := match y.V with
  | .nils => y.l.isEmpty
  | .slice (.own 3 0 0 1) m none => decide (m = y.n) && decide (y.l.length = y.n)
  | _ => false
def k8D : RDeal K8 where
  ins y := k8I y ++ [(20, .int .i64 0)]
  blks y := [rowI 4 y.h, rowI 4 y.t, rowI y.n y.b] ++ k8R y
  pre y := k8V y && (okT y.l && (decide (y.t = zerosI 4) && decide (y.n < 30)))
  alts := [⟨List Int, .exit 8, fun y t => t = cntT y.l, fun y _ => k8I y, fun y t => [rowI 4 y.h, rowI 4 t, rowI y.n y.b] ++ k8R y⟩]

def p1 : List Bool := [false, true, false, true, true, true]
def p2 : List Bool := [false, true, false, true, true, true, true]
def p3 : List Bool := [true, true, true, true, true, true]
def p4 : List Bool := [true, true, true, true, true, true, true, true, true, true, true]
def p5 : List Bool := [false, true, false, true, true, true, true, true, true, true, true, true, true, true, true, true, true]
def TA : Tolds := sumT 3 p1 (toldR 150 k1D [0, 1, 2, 7, 8] k1O) (sumT 3 p2 (toldR 150 k2D [1, 2, 7, 10] k2O) (sumT 3 p3 (toldR 150 k3D [2, 11] k3O) noT))
def TB : Tolds := sumT 3 p4 (toldR 150 k4D [11, 12, 15, 16] k4O) noT
def TC : Tolds := sumT 3 p5 (toldR 150 k8D [11, 12, 15, 16, 19, 20] k8O) noT
end Go.Proofs.Ytcgebafffkpmfaa
