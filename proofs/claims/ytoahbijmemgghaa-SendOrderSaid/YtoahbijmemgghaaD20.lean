/- send: a sender's numbers, and the messages that wait; contracts of its functions. -/
import Derived.Test.YtoahbijmemgghaaH20
import Derived.Test.YtoahbijmemgghaaE05
namespace Go.Proofs.Ytoahbijmemgghaa
open Ab

def kOf (l : List Int) (v : Int) : List Int := l.map fun _ => v
def bOf (l : List Int) : List Bool := l.map fun _ => false

/-- the columns of messages of these times -/
def qCols (l : List Int) : List Col := [.int .i64 (kOf l 1), .int .i64 (kOf l 0), .int .u32 (kOf l 0), .int .i64 (kOf l 0), .int .i64 (kOf l 0), .int .u8 (kOf l 0), .bool (bOf l), .bool (bOf l), .int .i64 l, .int .i64 (kOf l 0), .int .i64 (kOf l 0), .int .i64 (kOf l 0), .nilc l.length,
  .int .i64 (kOf l 0), .int .i64 (kOf l 0), .int .i64 (kOf l 0), .int .i64 (kOf l 0), .int .i64 (kOf l 0), .int .i64 (kOf l 0), .int .i64 (kOf l 0), .int .i64 (kOf l 0), .int .i64 (kOf l 0), .bool (bOf l), .nilc l.length]
def Qb (l : List Int) : Blk := .segs [⟨l.length, 24, qCols l⟩]
/-- a message: its kind, its time -/
def msgV (k t : Int) : AVal := .agg [.int .i64 k, .int .i64 0, .int .u32 0, .int .i64 0, .int .i64 0, .int .u8 0, .bool false, .bool false, .int .i64 t, .int .i64 0, .int .i64 0, .int .i64 0, .nils, .int .i64 0, .int .i64 0, .int .i64 0, .int .i64 0, .int .i64 0, .int .i64 0, .int .i64 0, .int .i64 0, .int .i64 0, .bool false, .nils]
/-- a message that is read at a place of the row -/
def msgAt (l : List Int) (i : Nat) : AVal := .agg [.int .i64 ((kOf l 1).getD i 0), .int .i64 ((kOf l 0).getD i 0), .int .u32 ((kOf l 0).getD i 0), .int .i64 ((kOf l 0).getD i 0), .int .i64 ((kOf l 0).getD i 0), .int .u8 ((kOf l 0).getD i 0), .bool ((bOf l).getD i false), .bool ((bOf l).getD i false), .int .i64 (l.getD i 0),
  .int .i64 ((kOf l 0).getD i 0), .int .i64 ((kOf l 0).getD i 0), .int .i64 ((kOf l 0).getD i 0), .nils, .int .i64 ((kOf l 0).getD i 0), .int .i64 ((kOf l 0).getD i 0), .int .i64 ((kOf l 0).getD i 0), .int .i64 ((kOf l 0).getD i 0), .int .i64 ((kOf l 0).getD i 0), .int .i64 ((kOf l 0).getD i 0), .int .i64 ((kOf l 0).getD i 0), .int .i64 ((kOf l 0).getD i 0), .int .i64 ((kOf l 0).getD i 0), .bool ((bOf l).getD i false), .nils]
/-- a row, from a place on so many, and one more -/
def Qp (l : List Int) (o n : Nat) (t : Int) : Blk := .segs [⟨n + 1, 24, [.int .i64 ((List.take n (List.drop o (kOf l 1))) ++ [1]), .int .i64 ((List.take n (List.drop o (kOf l 0))) ++ [0]), .int .u32 ((List.take n (List.drop o (kOf l 0))) ++ [0]), .int .i64 ((List.take n (List.drop o (kOf l 0))) ++ [0]), .int .i64 ((List.take n (List.drop o (kOf l 0))) ++ [0]), .int .u8 ((List.take n (List.drop o (kOf l 0))) ++ [0]), .bool ((List.take n (List.drop o (bOf l))) ++ [false]), .bool ((List.take n (List.drop o (bOf l))) ++ [false]), .int .i64 ((List.take n (List.drop o l)) ++ [t]),
  .int .i64 ((List.take n (List.drop o (kOf l 0))) ++ [0]), .int .i64 ((List.take n (List.drop o (kOf l 0))) ++ [0]), .int .i64 ((List.take n (List.drop o (kOf l 0))) ++ [0]), .nilc (n + 1), .int .i64 ((List.take n (List.drop o (kOf l 0))) ++ [0]), .int .i64 ((List.take n (List.drop o (kOf l 0))) ++ [0]), .int .i64 ((List.take n (List.drop o (kOf l 0))) ++ [0]), .int .i64 ((List.take n (List.drop o (kOf l 0))) ++ [0]), .int .i64 ((List.take n (List.drop o (kOf l 0))) ++ [0]), .int .i64 ((List.take n (List.drop o (kOf l 0))) ++ [0]), .int .i64 ((List.take n (List.drop o (kOf l 0))) ++ [0]), .int .i64 ((List.take n (List.drop o (kOf l 0))) ++ [0]), .int .i64 ((List.take n (List.drop o (kOf l 0))) ++ [0]), .bool ((List.take n (List.drop o (bOf l))) ++ [false]), .nilc (n + 1)]⟩]

def Qp2 (l : List Int) (o n : Nat) (t : Int) : Blk := .segs [⟨0 + n + 1, 24, [.int .i64 ((List.take (0 + n) (List.drop 0 (List.take n (List.drop o (kOf l 1))))) ++ [1]), .int .i64 ((List.take (0 + n) (List.drop 0 (List.take n (List.drop o (kOf l 0))))) ++ [0]), .int .u32 ((List.take (0 + n) (List.drop 0 (List.take n (List.drop o (kOf l 0))))) ++ [0]), .int .i64 ((List.take (0 + n) (List.drop 0 (List.take n (List.drop o (kOf l 0))))) ++ [0]), .int .i64 ((List.take (0 + n) (List.drop 0 (List.take n (List.drop o (kOf l 0))))) ++ [0]), .int .u8 ((List.take (0 + n) (List.drop 0 (List.take n (List.drop o (kOf l 0))))) ++ [0]), .bool ((List.take (0 + n) (List.drop 0 (List.take n (List.drop o (bOf l))))) ++ [false]), .bool ((List.take (0 + n) (List.drop 0 (List.take n (List.drop o (bOf l))))) ++ [false]), .int .i64 ((List.take (0 + n) (List.drop 0 (List.take n (List.drop o l)))) ++ [t]), .int .i64 ((List.take (0 + n) (List.drop 0 (List.take n (List.drop o (kOf l 0))))) ++ [0]), .int .i64 ((List.take (0 + n) (List.drop 0 (List.take n (List.drop o (kOf l 0))))) ++ [0]), .int .i64 ((List.take (0 + n) (List.drop 0 (List.take n (List.drop o (kOf l 0))))) ++ [0]), .nilc (0 + n + 1), .int .i64 ((List.take (0 + n) (List.drop 0 (List.take n (List.drop o (kOf l 0))))) ++ [0]), .int .i64 ((List.take (0 + n) (List.drop 0 (List.take n (List.drop o (kOf l 0))))) ++ [0]), .int .i64 ((List.take (0 + n) (List.drop 0 (List.take n (List.drop o (kOf l 0))))) ++ [0]), .int .i64 ((List.take (0 + n) (List.drop 0 (List.take n (List.drop o (kOf l 0))))) ++ [0]), .int .i64 ((List.take (0 + n) (List.drop 0 (List.take n (List.drop o (kOf l 0))))) ++ [0]), .int .i64 ((List.take (0 + n) (List.drop 0 (List.take n (List.drop o (kOf l 0))))) ++ [0]), .int .i64 ((List.take (0 + n) (List.drop 0 (List.take n (List.drop o (kOf l 0))))) ++ [0]), .int .i64 ((List.take (0 + n) (List.drop 0 (List.take n (List.drop o (kOf l 0))))) ++ [0]), .int .i64 ((List.take (0 + n) (List.drop 0 (List.take n (List.drop o (kOf l 0))))) ++ [0]), .bool ((List.take (0 + n) (List.drop 0 (List.take n (List.drop o (bOf l))))) ++ [false]), .nilc (0 + n + 1)]⟩]
/-- a variable that holds no message -/
def m0 : Blk := .segs [⟨1, 1, [.int .i64 [0]]⟩, ⟨1, 1, [.int .i64 [0]]⟩, ⟨1, 1, [.int .u32 [0]]⟩, ⟨1, 1, [.int .i64 [0]]⟩, ⟨1, 1, [.int .i64 [0]]⟩, ⟨1, 1, [.int .u8 [0]]⟩, ⟨1, 1, [.bool [false]]⟩, ⟨1, 1, [.bool [false]]⟩, ⟨1, 1, [.int .i64 [0]]⟩, ⟨1, 1, [.int .i64 [0]]⟩, ⟨1, 1, [.int .i64 [0]]⟩, ⟨1, 1, [.int .i64 [0]]⟩, ⟨1, 1, [.val [.nils]]⟩, ⟨1, 1, [.int .i64 [0]]⟩, ⟨1, 1, [.int .i64 [0]]⟩, ⟨1, 1, [.int .i64 [0]]⟩, ⟨1, 1, [.int .i64 [0]]⟩, ⟨1, 1, [.int .i64 [0]]⟩, ⟨1, 1, [.int .i64 [0]]⟩, ⟨1, 1, [.int .i64 [0]]⟩, ⟨1, 1, [.int .i64 [0]]⟩, ⟨1, 1, [.int .i64 [0]]⟩, ⟨1, 1, [.bool [false]]⟩, ⟨1, 1, [.val [.nils]]⟩]

theorem Qp2_eq (l : List Int) (o n : Nat) (t : Int) : Qp2 l o n t = Qp l o n t := by
  simp only [Qp2, Qp, Nat.zero_add, List.drop_zero, List.take_take, Nat.min_self]

theorem Qp_eq (l : List Int) (o n : Nat) (t : Int) (h : o + n ≤ l.length) : Qp l o n t = Qb (List.take n (List.drop o l) ++ [t]) := by
  have e : (List.take n (List.drop o l) ++ [t]).length = n + 1 := by simp; omega
  have k : ∀ v : Int, List.take n (List.drop o (kOf l v)) ++ [v] = kOf (List.take n (List.drop o l) ++ [t]) v := fun v => by simp [kOf]
  have b : List.take n (List.drop o (bOf l)) ++ [false] = bOf (List.take n (List.drop o l) ++ [t]) := by simp [bOf]
  simp only [Qp, Qb, qCols, k, b, e]

theorem msgAt_eq (l : List Int) (i : Nat) (h : i < l.length) : msgAt l i = msgV 1 (l.getD i 0) := by
  have k : ∀ v : Int, (kOf l v).getD i 0 = v := fun v => by rw [kOf, getD_map h]
  have b : (bOf l).getD i false = false := by rw [bOf, getD_map h]
  simp only [msgAt, msgV, k, b]

/-- a row is like itself -/
def qSame (l : List Int) : Bool := decide (l.length = l.length) && (decide (kOf l 1 = kOf l 1) && (decide (kOf l 0 = kOf l 0) && (decide (kOf l 0 = kOf l 0) && (decide (kOf l 0 = kOf l 0) && (decide (kOf l 0 = kOf l 0) && (decide (kOf l 0 = kOf l 0) && (decide (bOf l = bOf l) && (decide (bOf l = bOf l) && (decide (l = l) && (decide (kOf l 0 = kOf l 0) && (decide (kOf l 0 = kOf l 0) && (decide (kOf l 0 = kOf l 0) && (decide (l.length = l.length) && (decide (kOf l 0 = kOf l 0) && (decide (kOf l 0 = kOf l 0) && (decide (kOf l 0 = kOf l 0) && (decide (kOf l 0 = kOf l 0) && (decide (kOf l 0 = kOf l 0) && (decide (kOf l 0 = kOf l 0) && (decide (kOf l 0 = kOf l 0) && (decide (kOf l 0 = kOf l 0) && (decide (kOf l 0 = kOf l 0) && (decide (bOf l = bOf l) && (decide (l.length = l.length) && true))))))))))))))))))))))) && true)
theorem qSame_self (l : List Int) : qSame l = true := by simp [qSame]

/-- a row that has grown is of its times -/
def qGrown (l : List Int) (o n : Nat) (t : Int) : Bool := decide (n + 1 = List.length (List.take n (List.drop o l) ++ List.take 1 (List.drop 0 [t]))) && (decide (List.take n (List.drop o (kOf l 1)) ++ [1] = kOf (List.take n (List.drop o l) ++ List.take 1 (List.drop 0 [t])) 1) && (decide (List.take n (List.drop o (kOf l 0)) ++ [0] = kOf (List.take n (List.drop o l) ++ List.take 1 (List.drop 0 [t])) 0) && (decide (List.take n (List.drop o (kOf l 0)) ++ [0] = kOf (List.take n (List.drop o l) ++ List.take 1 (List.drop 0 [t])) 0) && (decide (List.take n (List.drop o (kOf l 0)) ++ [0] = kOf (List.take n (List.drop o l) ++ List.take 1 (List.drop 0 [t])) 0) && (decide (List.take n (List.drop o (kOf l 0)) ++ [0] = kOf (List.take n (List.drop o l) ++ List.take 1 (List.drop 0 [t])) 0) && (decide (List.take n (List.drop o (kOf l 0)) ++ [0] = kOf (List.take n (List.drop o l) ++ List.take 1 (List.drop 0 [t])) 0) && (decide (List.take n (List.drop o (bOf l)) ++ [false] = bOf (List.take n (List.drop o l) ++ List.take 1 (List.drop 0 [t]))) && (decide (List.take n (List.drop o (bOf l)) ++ [false] = bOf (List.take n (List.drop o l) ++ List.take 1 (List.drop 0 [t]))) && (decide (List.take n (List.drop o l) ++ List.take 1 (List.drop 0 [t]) = List.take n (List.drop o l) ++ List.take 1 (List.drop 0 [t])) && (decide (List.take n (List.drop o (kOf l 0)) ++ [0] = kOf (List.take n (List.drop o l) ++ List.take 1 (List.drop 0 [t])) 0) && (decide (List.take n (List.drop o (kOf l 0)) ++ [0] = kOf (List.take n (List.drop o l) ++ List.take 1 (List.drop 0 [t])) 0) && (decide (List.take n (List.drop o (kOf l 0)) ++ [0] = kOf (List.take n (List.drop o l) ++ List.take 1 (List.drop 0 [t])) 0) && (decide (n + 1 = List.length (List.take n (List.drop o l) ++ List.take 1 (List.drop 0 [t]))) && (decide (List.take n (List.drop o (kOf l 0)) ++ [0] = kOf (List.take n (List.drop o l) ++ List.take 1 (List.drop 0 [t])) 0) && (decide (List.take n (List.drop o (kOf l 0)) ++ [0] = kOf (List.take n (List.drop o l) ++ List.take 1 (List.drop 0 [t])) 0) && (decide (List.take n (List.drop o (kOf l 0)) ++ [0] = kOf (List.take n (List.drop o l) ++ List.take 1 (List.drop 0 [t])) 0) && (decide (List.take n (List.drop o (kOf l 0)) ++ [0] = kOf (List.take n (List.drop o l) ++ List.take 1 (List.drop 0 [t])) 0) && (decide (List.take n (List.drop o (kOf l 0)) ++ [0] = kOf (List.take n (List.drop o l) ++ List.take 1 (List.drop 0 [t])) 0) && (decide (List.take n (List.drop o (kOf l 0)) ++ [0] = kOf (List.take n (List.drop o l) ++ List.take 1 (List.drop 0 [t])) 0) && (decide (List.take n (List.drop o (kOf l 0)) ++ [0] = kOf (List.take n (List.drop o l) ++ List.take 1 (List.drop 0 [t])) 0) && (decide (List.take n (List.drop o (kOf l 0)) ++ [0] = kOf (List.take n (List.drop o l) ++ List.take 1 (List.drop 0 [t])) 0) && (decide (List.take n (List.drop o (kOf l 0)) ++ [0] = kOf (List.take n (List.drop o l) ++ List.take 1 (List.drop 0 [t])) 0) && (decide (List.take n (List.drop o (bOf l)) ++ [false] = bOf (List.take n (List.drop o l) ++ List.take 1 (List.drop 0 [t]))) && (decide (n + 1 = List.length (List.take n (List.drop o l) ++ List.take 1 (List.drop 0 [t]))) && true))))))))))))))))))))))) && true)
theorem qGrown_true (l : List Int) (o n : Nat) (t : Int) (h : o + n ≤ l.length) : qGrown l o n t = true := by
  have e : List.length (List.take n (List.drop o l) ++ List.take 1 (List.drop 0 [t])) = n + 1 := by simp; omega
  have k : ∀ v : Int, kOf (List.take n (List.drop o l) ++ List.take 1 (List.drop 0 [t])) v = List.take n (List.drop o (kOf l v)) ++ [v] := fun v => by simp [kOf]
  have b : bOf (List.take n (List.drop o l) ++ List.take 1 (List.drop 0 [t])) = List.take n (List.drop o (bOf l)) ++ [false] := by simp [bOf]
  simp only [qGrown, e, k, b, decide_true, Bool.and_self, Bool.and_true]

/-- a sender with a row of messages: all that the row holds, from where on, and how many; the row's capacity; capacity, base, limit -/
structure Sd where
  ts : List Int
  o : Nat
  n : Nat
  c : Option Nat
  k : Int
  b : Int
  m : Int
def Sd.blk (i : Nat) (x : Sd) : Blk := .segs [⟨1, 1, [.val [.slice (.own i 0 x.o 24) x.n x.c]]⟩, ⟨1, 1, [.int .i64 [x.k]]⟩, ⟨1, 1, [.int .u64 [x.b]]⟩, ⟨1, 1, [.int .u64 [x.m]]⟩]
def zBlk (k b m : Int) : Blk := .segs [⟨1, 1, [.val [.nils]]⟩, ⟨1, 1, [.int .i64 [k]]⟩, ⟨1, 1, [.int .u64 [b]]⟩, ⟨1, 1, [.int .u64 [m]]⟩]

/-- the document's -/
def Sd.rblk (i : Nat) (x : Sd) : Blk := .segs [⟨1, 1, [.int .i64 [x.k]]⟩, ⟨1, 1, [.int .u64 [x.b]]⟩, ⟨1, 1, [.int .u64 [x.m]]⟩, ⟨1, 1, [.val [.slice (.own i 0 x.o 24) x.n x.c]]⟩]
def rzBlk (k b m : Int) : Blk := .segs [⟨1, 1, [.int .i64 [k]]⟩, ⟨1, 1, [.int .u64 [b]]⟩, ⟨1, 1, [.int .u64 [m]]⟩, ⟨1, 1, [.val [.nils]]⟩]

/-- a sender: without a row, or with one -/
inductive Sx
  | z (k b m : Int)
  | q (x : Sd)
def Sx.bs : Sx → List Blk
  | .z k b m => [zBlk k b m]
  | .q x => [x.blk 1, Qb x.ts]
def Sx.n : Sx → Nat
  | .z _ _ _ => 0
  | .q x => x.n
def Sx.k : Sx → Int
  | .z k _ _ => k
  | .q x => x.k
def Sx.b : Sx → Int
  | .z _ b _ => b
  | .q x => x.b
def Sx.m : Sx → Int
  | .z _ _ m => m
  | .q x => x.m
/-- the times that wait -/
def Sd.l (x : Sd) : List Int := List.take x.n (List.drop x.o x.ts)
def Sx.l : Sx → List Int
  | .z _ _ _ => []
  | .q x => x.l

def okN (n : Nat) (k b m : Int) : Bool := decide (n ≤ 1000) && (decide (0 ≤ k) && (decide (k ≤ 1000) && (decide (0 ≤ b) && (decide (b ≤ 1000000) && (decide (0 ≤ m) && decide (m ≤ 1000000000))))))
def okSd (x : Sd) : Bool := okN x.n x.k x.b x.m && (decide (x.o + x.n ≤ x.ts.length) && decide (x.c = none ∨ x.c = some x.n))
def Sx.ok : Sx → Bool
  | .z k b m => okN 0 k b m
  | .q x => okSd x

def timesOf (cs : List Col) : Option (List Int) := match cs with
  | _ :: _ :: _ :: _ :: _ :: _ :: _ :: _ :: .int _ ts :: _ => some ts
  | _ => none
def sxOf : List Blk → Option Sx
  | [.segs [⟨_, _, [.val [.nils]]⟩, ⟨_, _, [.int _ [k]]⟩, ⟨_, _, [.int _ [b]]⟩, ⟨_, _, [.int _ [m]]⟩]] => some (.z k b m)
  | [.segs [⟨_, _, [.val [.slice (.own _ _ o _) n c]]⟩, ⟨_, _, [.int _ [k]]⟩, ⟨_, _, [.int _ [b]]⟩, ⟨_, _, [.int _ [m]]⟩], .segs [⟨_, _, cs⟩]] => match timesOf cs with
    | some ts => some (.q ⟨ts, o, n, c, k, b, m⟩)
    | none => none
  | _ => none

/-! What is sent next. -/
def mayN (n : Nat) (b m : Int) : Int := if m ≤ b then 1 else if m - b < n then m - b else n
def atN (n : Nat) (b m i : Int) : Int := Int.tmod (if 0 < i then i else 0) (mayN n b m)
def nSeq (n : Nat) (b m i : Int) : Int := if n = 0 then 0 else b + atN n b m i
def nTime (l : List Int) (b m i : Int) : Int := if l.length = 0 then 0 else l.getD (atN l.length b m i).toNat 0
def nKind (n : Nat) : Int := if n = 0 then 0 else 1
def nIs (n : Nat) : Bool := decide (n ≠ 0)
def nextV (l : List Int) (n : Nat) (b m i : Int) : AVal := .tup [.int .u64 (nSeq n b m i), msgV (nKind n) (nTime l b m i), .bool (nIs n)]

/-! What an answer makes. -/
def badA (n : Nat) (k b i r : Int) : Bool := decide (b + n < i) || (decide (r < 0) || decide (k < r))
def ackE (n : Nat) (k b i r : Int) : Int := if badA n k b i r = true then 2 else 0
def gone (b i : Int) : Nat := (i - b).toNat
def maxI (m v : Int) : Int := if m < v then v else m
def fB (q : Bool) (v i : Int) : Int := if q = true then v else maxI v i
def Sd.ack (x : Sd) (i r : Int) : Sd := if badA x.n x.k x.b i r = true then x else ⟨x.ts, x.o + gone x.b i, x.n - gone x.b i, if x.b < i then some (x.n - gone x.b i) else x.c, x.k, maxI x.b i, maxI x.m (i + r)⟩
def Sx.ack : Sx → Int → Int → Sx
  | .z k b m, i, r => .z k b (fB (badA 0 k b i r) m (i + r))
  | .q x, i, r => .q (x.ack i r)

structure Sxi where
  x : Sx
  i : Int
  r : Int

def sx1 (_ : List AVal) (Bs : List Blk) : Option Sx := sxOf Bs
def sxi (us : List AVal) (Bs : List Blk) : Option Sxi := match us, sxOf Bs with
  | [_, .int _ i], some x => some ⟨x, i, 0⟩
  | [_, .int _ i, .int _ r], some x => some ⟨x, i, r⟩
  | _, _ => none

def u64 (v : Int) : Bool := decide (0 ≤ v) && decide (v < 18446744073709551616)
def i64 (v : Int) : Bool := decide (-9223372036854775808 ≤ v) && decide (v < 9223372036854775808)

def lenD : CDeal Sx := ⟨fun _ => [.ptr (.own 0 0 0 0)], Sx.bs, Sx.ok, fun x => .int .i64 (x.n : Int), Sx.bs⟩
def baseD : CDeal Sx := ⟨fun _ => [.ptr (.own 0 0 0 0)], Sx.bs, Sx.ok, fun x => .int .u64 x.b, Sx.bs⟩
def leftD : CDeal Sx := ⟨fun _ => [.ptr (.own 0 0 0 0)], Sx.bs, Sx.ok, fun x => .int .i64 (x.k - (x.n : Int)), Sx.bs⟩
def nextD : CDeal Sxi := ⟨fun y => [.ptr (.own 0 0 0 0), .int .i64 y.i], fun y => y.x.bs, fun y => y.x.ok && i64 y.i, fun y => nextV y.x.l y.x.n y.x.b y.x.m y.i, fun y => y.x.bs⟩
def ackD : CDeal Sxi := ⟨fun y => [.ptr (.own 0 0 0 0), .int .u64 y.i, .int .i64 y.r], fun y => y.x.bs, fun y => y.x.ok && (u64 y.i && i64 y.r), fun y => .int .i64 (ackE y.x.n y.x.k y.x.b y.i y.r), fun y => (y.x.ack y.i y.r).bs⟩

/-! New ones. -/
def newOk (n : Int) : Bool := decide (1 ≤ n) && decide (n ≤ 16)
def new1 : CDeal Int := ⟨fun n => [.int .i64 n], fun _ => [], newOk, fun _ => .ptr (.own 0 0 0 0), fun n => [zBlk n 0 n]⟩
def new2 : CDeal Int := ⟨fun n => [.int .i64 n], fun _ => [], fun n => !newOk n, fun _ => .nilp, fun _ => []⟩
def oneI (us : List AVal) (_ : List Blk) : Option Int := match us with
  | [.int _ n] => some n
  | _ => none

def S1 : Sums := sumF 15 (callG ackD sxi) (sumF 12 (callG nextD sxi) (sumF 19 (callG leftD sx1) (sumF 18 (callG lenD sx1) (sumF 17 (callG baseD sx1) (sumF 7 (call2G new1 new2 newOk oneI) noS)))))
def S2 : Sums := sumF 20 (callG trueD fun _ _ => some ()) S1

end Go.Proofs.Ytoahbijmemgghaa
