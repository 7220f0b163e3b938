/- send: SendPlays: both senders; the pieces of its loop. -/
import Derived.Test.YtoahbijmemgghaaP20r
namespace Go.Proofs.Ytoahbijmemgghaa
open Ab

/-- the acts: what, a number, a room, a number -/
def tabS (a b c d : List Int) : Nat → Nat → Seg := fun _ _ => ⟨a.length, 4, [.int .u8 a, .int .i8 b, .int .i8 c, .int .u64 d]⟩

/-- both senders -/
inductive Pr
  | z (k b m : Int)
  | q (x y : Sd)
def Pr.like (i : Int) : Pr → Bool
  | .z k b m => newOk k && (okN 0 k b m && (decide (b = 0) && decide (m ≤ 2000)))
  | .q x y => newOk x.k && (okSd x && (okSd y && (decide (y.c = none) && (decide (x.n = y.n) && (decide (x.k = y.k) && (decide (x.b = y.b) && (decide (x.m = y.m) && (decide (x.l = y.l) && (decide (x.b + x.n ≤ i) && (decide (x.m ≤ 2000) && (decide (i ≤ 100) && decide ((x.n : Int) ≤ x.k))))))))))))

structure Two where
  a : Int
  b : Int
def Two.v (z : Two) : AVal := .agg [.int .i64 z.a, .int .i64 z.b]
/-- what a round keeps -/
structure Kp where
  n : Nat
  z : Two
  j : Int
  i : Int
def Kp.ins (y : Kp) : List (Nat × AVal) := [(2, .slice (.ro 0 0 0 0) y.n none), (9, .ptr (.own 0 0 0 0)), (10, .ptr (.own 1 0 0 0)), (11, .int .i64 y.i), (25, y.z.v), (26, .int .i64 y.j)]
structure Rd where
  g : Kp
  p : Pr
def prOf : List Blk → Option Pr
  | [A, B] => match sxOf [A] with
    | some (.z k b m) => some (.z k b m)
    | _ => none
  | [A, B, Q, R] => match sxOf [A, Q], rxOf [B, R] with
    | some (.q x), some (.q y) => some (.q x y)
    | _, _ => none
  | _ => none
def Pr.bs : Pr → List Blk
  | .z k b m => [zBlk k b m, rzBlk k b m]
  | .q x y => [x.blk 2, y.rblk 3, Qb x.ts, Qb y.ts]
def rdO (us : List AVal) (Bs : List Blk) : Option Rd := match us, prOf Bs with
  | [.slice _ n _, _, _, .int _ i, .agg [.int _ a, .int _ b], .int _ j], some p => some ⟨⟨n, ⟨a, b⟩, j, i⟩, p⟩
  | _, _ => none
structure Zz where
  k : Int
  b : Int
  m : Int
structure Qq where
  x : Sd
  y : Sd
/-- behind an act: both are alike -/
def altsP {ξ : Type} (g : ξ → Kp) : List (RAlt ξ) := [⟨Zz, .normal, fun y s => Pr.like ((g y).i + 1) (.z s.k s.b s.m) = true, fun y _ => (g y).ins, fun _ s => [zBlk s.k s.b s.m, rzBlk s.k s.b s.m]⟩,
  ⟨Qq, .normal, fun y s => Pr.like ((g y).i + 1) (.q s.x s.y) = true, fun y _ => (g y).ins, fun _ s => [s.x.blk 2, s.y.rblk 3, Qb s.x.ts, Qb s.y.ts]⟩]
def pushD : RDeal Rd where
  ins y := y.g.ins
  blks y := y.p.bs
  pre y := y.p.like y.g.i && (decide (0 ≤ y.g.i) && decide (y.g.i < 100))
  alts := altsP Rd.g
def pPU : List Bool := [false, true, false, true, false, true, false, false, true, false, false, true, true, true, true, false, false, true, true, false, false, true, false, true]

/-- an act, in its variable -/
structure Doing where
  w : Int
  k : Int
  r : Int
  s : Int
def Doing.blk (u : Doing) : Blk := .segs [⟨1, 1, [.int .u8 [u.w]]⟩, ⟨1, 1, [.int .i8 [u.k]]⟩, ⟨1, 1, [.int .i8 [u.r]]⟩, ⟨1, 1, [.int .u64 [u.s]]⟩]
def doOf : Blk → Option Doing
  | .segs [⟨_, _, [.int _ [w]]⟩, ⟨_, _, [.int _ [k]]⟩, ⟨_, _, [.int _ [r]]⟩, ⟨_, _, [.int _ [s]]⟩] => some ⟨w, k, r, s⟩
  | _ => none
structure Ac where
  g : Kp
  p : Pr
  u : Doing
  e : Int
def Ac.bs (y : Ac) : List Blk := match y.p with
  | .z k b m => [zBlk k b m, rzBlk k b m, y.u.blk]
  | .q x y' => [x.blk 3, y'.rblk 4, y.u.blk, Qb x.ts, Qb y'.ts]
def acO (us : List AVal) (Bs : List Blk) : Option Ac := match us, Bs with
  | [V, _, _, I, _, Z, J, .int _ e], [A, B, U] => match rdO [V, .nilp, .nilp, I, Z, J] [A, B], doOf U with
    | some y, some u => some ⟨y.g, y.p, u, e⟩
    | _, _ => none
  | [V, _, _, I, _, Z, J, .int _ e], [A, B, U, Q, R] => match rdO [V, .nilp, .nilp, I, Z, J] [A, B, Q, R], doOf U with
    | some y, some u => some ⟨y.g, y.p, u, e⟩
    | _, _ => none
  | _, _ => none
def i8 (v : Int) : Bool := decide (-128 ≤ v) && decide (v < 128)
def acD : RDeal Ac where
  ins y := y.g.ins ++ [(12, .ptr (.own 2 0 0 0)), (58, .int .u8 y.e)]
  blks := Ac.bs
  pre y := y.p.like y.g.i && (decide (0 ≤ y.g.i) && (decide (y.g.i < 100) && (i8 y.u.k && (i8 y.u.r && u64 y.u.s))))
  alts := altsP Ac.g
def pAC : List Bool := [true, false, true, false, false, true, false, false, true, true, true, true, false, false, true, true, false, false, true, false, true]
def TPU : Tolds := sumT 3 pPU (toldR 199 pushD [2, 9, 10, 11, 25, 26] rdO) noT
def TAC : Tolds := sumT 3 pAC (toldR 199 acD [2, 9, 10, 11, 12, 25, 26, 58] acO) noT

/-- the acts' loop -/
inductive Pl
  | b (V : AVal) (z : Two) (j k : Int)
  | o (V : AVal) (z : Two) (j : Int)
def plO (us : List AVal) (Bs : List Blk) : Option Pl := match us, Bs with
  | [V, .ptr _, _, _, .agg [.int _ a, .int _ b], .int _ j], A :: _ => match sxOf [A] with
    | some (.z k _ _) => some (.b V ⟨a, b⟩ j k)
    | _ => none
  | [V, .nilp, _, _, .agg [.int _ a, .int _ b], .int _ j], [] => some (.o V ⟨a, b⟩ j)
  | _, _ => none
def plIns : Pl → List (Nat × AVal)
  | .b V z j _ => [(2, V), (9, .ptr (.own 0 0 0 0)), (10, .ptr (.own 1 0 0 0)), (11, .int .i64 0), (25, z.v), (26, .int .i64 j)]
  | .o V z j => [(2, V), (9, .nilp), (10, .nilp), (11, .int .i64 0), (25, z.v), (26, .int .i64 j)]
def okV (a : List Int) : AVal → Bool
  | .nils => true
  | .slice (.ro 0 0 0 0) n none => decide (n = a.length)
  | _ => false
def plD (a : List Int) : RDeal Pl where
  ins := plIns
  blks
    | .b _ _ _ k => [zBlk k 0 k, rzBlk k 0 k]
    | .o _ _ _ => []
  pre
    | .b V _ _ k => okV a V && newOk k
    | .o V _ _ => okV a V
  alts := [⟨Unit, .exit 2, fun _ _ => True, fun y _ => match y with
    | .b V z j _ => [(2, V), (25, z.v), (26, .int .i64 j)]
    | .o V z j => [(2, V), (25, z.v), (26, .int .i64 j)], fun _ _ => []⟩]
def pPL : List Bool := [false, true, true, true, true, false, false, true, true, false, false, true, false, true]
def T3 (a : List Int) : Tolds := sumT 3 pPL (toldR 199 (plD a) [2, 9, 10, 11, 25, 26] plO) noT

end Go.Proofs.Ytoahbijmemgghaa
