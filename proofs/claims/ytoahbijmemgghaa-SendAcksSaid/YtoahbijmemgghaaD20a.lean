/- send: SendAcks: its loops' contracts. -/
import Derived.Test.YtoahbijmemgghaaP20a
namespace Go.Proofs.Ytoahbijmemgghaa
open Ab

/-- the numbers from 0 on -/
def rng (n : Nat) : List Int := (List.range n).map Int.ofNat

structure Fo where
  a : Int
  b : Int
  c : Int
  d : Int
def Fo.blk (z : Fo) : Blk := .segs [⟨2, 2, [.int .u8 [z.a, z.c], .int .u8 [z.b, z.d]]⟩]
def foOf : Blk → Option Fo
  | .segs [⟨_, _, [.int _ [a, c], .int _ [b, d]]⟩] => some ⟨a, b, c, d⟩
  | _ => none

structure La where
  z : Fo
  k : Int
  n : Int
def laIns (y : La) : List (Nat × AVal) := [(5, .ptr (.own 0 0 0 0)), (7, .int .i64 y.k), (8, .ptr (.own 1 0 0 0)), (9, .ptr (.own 2 0 0 0)), (10, .int .i64 y.n)]
def laO (us : List AVal) (Bs : List Blk) : Option La := match us, Bs with
  | [_, .int _ k, _, _, .int _ n, _], Z :: _ => match foOf Z with
    | some z => some ⟨z, k, n⟩
    | none => none
  | _, _ => none
def full (k : Int) (n : Nat) : Sd := ⟨rng n, 0, n, none, k, 0, k⟩
def laD : RDeal La where
  ins y := laIns y ++ [(11, .int .i64 0)]
  blks y := [y.z.blk, zBlk y.k 0 y.k, zBlk y.k 0 y.k]
  pre y := newOk y.k && (decide (0 ≤ y.n) && decide (y.n ≤ y.k))
  alts := [⟨Unit, .exit 0, fun y _ => y.n = 0, fun y _ => laIns y, fun y _ => [y.z.blk, zBlk y.k 0 y.k, zBlk y.k 0 y.k]⟩,
    ⟨Nat, .exit 0, fun y n => 0 < n ∧ y.n = n, fun y _ => laIns y, fun y n => [y.z.blk, (full y.k n).blk 3, (full y.k n).blk 4, Qb (rng n), Qb (rng n)]⟩]
def pLA : List Bool := [false, true, false, true, true, true, true, true, true]

/-- both senders are alike -/
inductive Le
  | z (c k b m k' b' m' : Int)
  | q (c : Int) (x y : Sd)
def leIns (c i : Int) : List (Nat × AVal) := [(7, .int .i64 c), (8, .ptr (.own 0 0 0 0)), (9, .ptr (.own 1 0 0 0)), (19, .int .i64 i)]
def Le.bs : Le → List Blk
  | .z _ k b m k' b' m' => [zBlk k b m, zBlk k' b' m']
  | .q _ x y => [x.blk 2, y.blk 3, Qb x.ts, Qb y.ts]
def Le.c : Le → Int
  | .z c _ _ _ _ _ _ => c
  | .q c _ _ => c
def Le.ok : Le → Bool
  | .z c k b m k' b' m' => newOk c && (okN 0 k b m && (okN 0 k' b' m' && (decide (b = b') && decide (m = m'))))
  | .q c x y => newOk c && (okSd x && (okSd y && (decide (x.l = y.l) && (decide (x.b = y.b) && decide (x.m = y.m)))))
def leO (us : List AVal) (Bs : List Blk) : Option Le := match us, Bs with
  | [.int _ c, _, _, _], [S, T] => match sxOf [S], sxOf [T] with
    | some (.z k b m), some (.z k' b' m') => some (.z c k b m k' b' m')
    | _, _ => none
  | [.int _ c, _, _, _], [S, T, Q, R] => match sxOf [S, Q], sxOf [T, R] with
    | some (.q x), some (.q y) => some (.q c x y)
    | _, _ => none
  | _, _ => none
def leD : RDeal Le where
  ins y := leIns y.c 0
  blks := Le.bs
  pre := Le.ok
  alts := [⟨Unit, .exit 4, fun _ _ => True, fun _ _ => [], fun _ _ => []⟩]
def pLE : List Bool := [false, true, false, true, true, true, true, true, true, true, true, true, true, true, true, true]
def T6E : Tolds := sumT 6 pLE (toldR 193 leD [7, 8, 9, 19] leO) noT

/-- two answers, in both orders -/
structure Ans where
  c : Int
  n0 : Int
  n1 : Int
  r0 : Int
  r1 : Int
def Ans.ins (a : Ans) : List (Nat × AVal) := [(7, .int .i64 a.c), (8, .ptr (.own 0 0 0 0)), (9, .ptr (.own 1 0 0 0)), (12, .ptr (.own 2 0 0 0)), (13, .ptr (.own 3 0 0 0))]
def Ans.b (a : Ans) : List Blk := [.segs [⟨2, 1, [.int .u64 [a.n0, a.n1]]⟩], .segs [⟨2, 1, [.int .i64 [a.r0, a.r1]]⟩]]
inductive Lr
  | z (a : Ans) (k b m : Int)
  | q (a : Ans) (x : Sd)
def Lr.a : Lr → Ans
  | .z a _ _ _ => a
  | .q a _ => a
def Lr.bs : Lr → List Blk
  | .z a k b m => [zBlk k b m, zBlk k b m] ++ a.b
  | .q a x => [x.blk 4, x.blk 5] ++ a.b ++ [Qb x.ts, Qb x.ts]
def Lr.ok : Lr → Bool
  | .z a k b m => newOk a.c && (u64 a.n0 && (u64 a.n1 && (i64 a.r0 && (i64 a.r1 && (okN 0 k b m && (decide (b ≤ 100) && decide (m ≤ 100)))))))
  | .q a x => newOk a.c && (u64 a.n0 && (u64 a.n1 && (i64 a.r0 && (i64 a.r1 && (okSd x && (decide (x.b ≤ 100) && decide (x.m ≤ 100)))))))
def ansOf : List Blk → Option (Int × Int × Int × Int)
  | [.segs [⟨_, _, [.int _ [n0, n1]]⟩], .segs [⟨_, _, [.int _ [r0, r1]]⟩]] => some (n0, n1, r0, r1)
  | _ => none
def lrO (us : List AVal) (Bs : List Blk) : Option Lr := match us, Bs with
  | [.int _ c, _, _, _, _], [S, _, A, B] => match sxOf [S], ansOf [A, B] with
    | some (.z k b m), some (n0, n1, r0, r1) => some (.z ⟨c, n0, n1, r0, r1⟩ k b m)
    | _, _ => none
  | [.int _ c, _, _, _, _], [S, _, A, B, Q, _] => match sxOf [S, Q], ansOf [A, B] with
    | some (.q x), some (n0, n1, r0, r1) => some (.q ⟨c, n0, n1, r0, r1⟩ x)
    | _, _ => none
  | _, _ => none
def lrD : RDeal Lr where
  ins y := y.a.ins
  blks := Lr.bs
  pre := Lr.ok
  alts := [⟨Unit, .ret, fun _ _ => True, fun _ _ => [(6, .bool true)], fun _ _ => []⟩]
def pLR : List Bool := [true, true, true, true, true, true, true, true, true, true]
def T6 : Tolds := sumT 6 pLA (toldR 193 laD [5, 7, 8, 9, 10, 11] laO) (sumT 6 pLR (toldR 193 lrD [7, 8, 9, 12, 13] lrO) noT)

end Go.Proofs.Ytoahbijmemgghaa
