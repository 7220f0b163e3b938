/- align: AlignPlays: new ones; the acts' loop. -/
import Derived.Test.YtbdjcekekhgnkaaD24b
import Derived.Test.YtbdjcekekhgnkaaE05
namespace Go.Proofs.Ytbdjcekekhgnkaa
open Ab

structure Tri where
  n : Int
  m : Int
  l : Int
def triOf (us : List AVal) (_ : List Blk) : Option Tri := match us with
  | [.int _ n, .int _ m, .int _ l] => some ⟨n, m, l⟩
  | _ => none
def Tri.as (t : Tri) : List AVal := [.int .i64 t.n, .int .i64 t.m, .int .i64 t.l]
def newOk (t : Tri) : Bool := decide (1 ≤ t.n) && (decide (t.n ≤ 16) && (decide (0 ≤ t.m) && (decide (t.m ≤ 16) && decide (0 ≤ t.l))))
def newAl (t : Tri) : Al := ⟨List.replicate 16 false, List.replicate 16 false, t.n, t.m, t.l⟩
def newRf (t : Tri) : Rf := ⟨List.replicate t.n.toNat false, List.replicate t.m.toNat false, t.l⟩
def new1 : CDeal Tri := ⟨Tri.as, fun _ => [], newOk, fun _ => .ptr (.own 0 0 0 0), fun t => [(newAl t).blk]⟩
def new2 : CDeal Tri := ⟨Tri.as, fun _ => [], fun t => !newOk t, fun _ => .nilp, fun _ => []⟩
def rnew1 : CDeal Tri := ⟨Tri.as, fun _ => [], newOk, fun _ => .ptr (.own 2 0 0 0), fun t => [bl (newRf t).p.length (newRf t).p, bl (newRf t).q.length (newRf t).q, (newRf t).b0 0 1]⟩
def rnew2 : CDeal Tri := ⟨Tri.as, fun _ => [], fun t => !newOk t, fun _ => .nilp, fun _ => []⟩
def S5 : Sums := sumF 7 (call2G rnew1 rnew2 newOk triOf) (sumF 6 (call2G new1 new2 newOk triOf) S4)

/-- the acts: what, the way, the offset, a number -/
def tabA (a b c d : List Int) : Nat → Nat → Seg := fun _ _ => ⟨a.length, 4, [.int .u8 a, .int .u8 b, .int .i8 c, .int .i64 d]⟩

structure Six where
  a : Int
  b : Int
  c : Int
  d : Int
  e : Int
  f : Int
def Six.v (z : Six) : AVal := .agg [.int .i64 z.a, .int .i64 z.b, .int .i64 z.c, .int .i64 z.d, .int .i64 z.e, .int .i64 z.f]

inductive Pl
  | b (V : AVal) (z : Six) (j : Int) (x : Al) (r : Rf)
  | o (V : AVal) (z : Six) (j : Int)
def plO (us : List AVal) (Bs : List Blk) : Option Pl := match us with
  | [V, .ptr _, _, _, .agg [.int _ a, .int _ b, .int _ c, .int _ d, .int _ e, .int _ f], .int _ j] => match bothOf us Bs with
    | some y => some (.b V ⟨a, b, c, d, e, f⟩ j y.x y.r)
    | none => none
  | [V, .nilp, _, _, .agg [.int _ a, .int _ b, .int _ c, .int _ d, .int _ e, .int _ f], .int _ j] => some (.o V ⟨a, b, c, d, e, f⟩ j)
  | _ => none
def plIns : Pl → List (Nat × AVal)
  | .b V z j _ _ => [(2, V), (9, .ptr (.own 0 0 0 0)), (10, .ptr (.own 1 0 0 0)), (11, .int .i64 0), (28, z.v), (29, .int .i64 j)]
  | .o V z j => [(2, V), (9, .nilp), (10, .nilp), (11, .int .i64 0), (28, z.v), (29, .int .i64 j)]
def okV (a : List Int) : AVal → Bool
  | .nils => true
  | .slice (.ro 0 0 0 0) n none => decide (n = a.length)
  | _ => false
def plD (a : List Int) : RDeal Pl where
  ins := plIns
  blks
    | .b _ _ _ x r => both ⟨x, r⟩
    | .o _ _ _ => []
  pre
    | .b V _ _ x r => okV a V && relB x r
    | .o V _ _ => okV a V
  alts := [⟨Unit, .exit 2, fun _ _ => True, fun y _ => match y with
    | .b V z j _ _ => [(2, V), (28, z.v), (29, .int .i64 j)]
    | .o V z j => [(2, V), (28, z.v), (29, .int .i64 j)], fun _ _ => []⟩]

def T3 (a : List Int) : Tolds := sumT 3 [false, true, true, true, true, false, false, true, true, false, false, true, false, true] (toldR 135 (plD a) [2, 9, 10, 11, 28, 29] plO) noT

/-- an act, in its variable -/
structure Doing where
  w : Int
  y : Int
  o : Int
  k : Int
def Doing.blk (u : Doing) : Blk := .segs [⟨1, 1, [.int .u8 [u.w]]⟩, ⟨1, 1, [.int .u8 [u.y]]⟩, ⟨1, 1, [.int .i8 [u.o]]⟩, ⟨1, 1, [.int .i64 [u.k]]⟩]

/-- within a round -/
structure Mid where
  V : AVal
  z : Six
  j : Int
  i : Int
  x : Al
  r : Rf
  u : Doing
  w : Int
  k : Int
def Mid.ins (y : Mid) : List (Nat × AVal) := [(2, y.V), (9, .ptr (.own 0 0 0 0)), (10, .ptr (.own 1 0 0 0)), (11, .int .i64 y.i), (12, .ptr (.own 2 0 0 0)), (13, .int .i64 y.w), (14, .int .i64 y.k), (28, y.z.v), (29, .int .i64 y.j)]
def Mid.bs (y : Mid) : List Blk := [y.x.blk, y.r.b0 3 4, y.u.blk, bl y.r.p.length y.r.p, bl y.r.q.length y.r.q]
def actOf : Blk → Option Doing
  | .segs [⟨_, _, [.int _ [w]]⟩, ⟨_, _, [.int _ [y]]⟩, ⟨_, _, [.int _ [o]]⟩, ⟨_, _, [.int _ [k]]⟩] => some ⟨w, y, o, k⟩
  | _ => none
def midO (us : List AVal) (Bs : List Blk) : Option Mid := match us, Bs with
  | [V, _, _, .int _ i, _, .int _ w, .int _ k, .agg [.int _ a, .int _ b, .int _ c, .int _ d, .int _ e, .int _ f], .int _ j], [A, R, U, I, B] => match alOf A, rfOf [R, I, B], actOf U with
    | some x, some r, some u => some ⟨V, ⟨a, b, c, d, e, f⟩, j, i, x, r, u, w, k⟩
    | _, _, _ => none
  | _, _ => none

def okA (a : List Int) (y : Mid) : Bool := okV a y.V && (relB y.x y.r && (ok64 y.k && ok64 y.u.k))
/-- the number that is told -/
def midA (a : List Int) : RDeal Mid where
  ins := Mid.ins
  blks := Mid.bs
  pre := okA a
  alts := [⟨Int, .normal, fun _ k => ok64 k = true, fun y k => ({ y with k := k } : Mid).ins, fun y _ => y.bs⟩]

structure Now where
  x : Al
  r : Rf
  e : Int
/-- what is done -/
def midB (a : List Int) : RDeal Mid where
  ins := Mid.ins
  blks := Mid.bs
  pre := okA a
  alts := [⟨Now, .normal, fun _ n => relB n.x n.r = true, fun y n => [(2, y.V), (9, .ptr (.own 0 0 0 0)), (10, .ptr (.own 1 0 0 0)), (11, .int .i64 y.i), (15, .int .i64 n.e), (16, .int .i64 n.e), (28, y.z.v), (29, .int .i64 y.j)], fun _ n => both ⟨n.x, n.r⟩⟩]

def pA : List Bool := [false, true, true, true, false, false, true, false, false, true, true, true, true, false, false, true, true, false, false, true, false, true]
def pB : List Bool := [false, true, true, true, true, true, false, false, true, false, false, true, true, true, true, false, false, true, true, false, false, true, false, true]
def TM (a : List Int) : Tolds := sumT 3 pA (toldR 135 (midA a) [2, 9, 10, 11, 12, 13, 14, 28, 29] midO) (sumT 3 pB (toldR 135 (midB a) [2, 9, 10, 11, 12, 13, 14, 28, 29] midO) noT)

end Go.Proofs.Ytbdjcekekhgnkaa
