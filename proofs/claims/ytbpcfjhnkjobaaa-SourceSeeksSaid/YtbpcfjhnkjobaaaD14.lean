/- source: items, a source; contracts of the program's functions, and of the document's. -/
import Derived.Test.YtbpcfjhnkjobaaaH14
import Derived.Test.YtbpcfjhnkjobaaaE05
namespace Go.Proofs.Ytbpcfjhnkjobaaa
open Ab

/-- items, by their fields -/
structure Items where
  im : List Bool
  tm : List Int
  ky : List Int
  rt : List Int
  vl : List Int
  sd : List Int
  er : List Bool
  lt : List Bool

def Items.n (x : Items) : Nat := x.im.length
def Items.blk (x : Items) : Blk := .segs [⟨x.im.length, 8, [.bool x.im, .int .i64 x.tm, .int .u32 x.ky, .int .i64 x.rt, .int .i64 x.vl, .int .u8 x.sd, .bool x.er, .bool x.lt]⟩]
def itemsOf : Blk → Option Items
  | .segs [⟨_, _, [.bool im, .int _ tm, .int _ ky, .int _ rt, .int _ vl, .int _ sd, .bool er, .bool lt]⟩] => some ⟨im, tm, ky, rt, vl, sd, er, lt⟩
  | _ => none
def Items.take (m : Nat) (x : Items) : Items := ⟨x.im.take m, x.tm.take m, x.ky.take m, x.rt.take m, x.vl.take m, x.sd.take m, x.er.take m, x.lt.take m⟩
def Items.none : Items := ⟨[], [], [], [], [], [], [], []⟩
def lensI (x : Items) (m : Nat) : Bool := decide (x.im.length = m) && (decide (x.tm.length = m) && (decide (x.ky.length = m) && (decide (x.rt.length = m) && (decide (x.vl.length = m) && (decide (x.sd.length = m) && (decide (x.er.length = m) && decide (x.lt.length = m)))))))

structure Rec6 where
  key : Int
  time : Int
  val : Int
  side : Int
  err : Bool
  late : Bool
def Rec6.v (r : Rec6) : AVal := .agg [.int .u32 r.key, .int .i64 r.time, .int .i64 r.val, .int .u8 r.side, .bool r.err, .bool r.late]
def noRec : Rec6 := ⟨0, 0, 0, 0, false, false⟩

/-- a source: its items, how late, the frontier, the place, is it over -/
structure Sr where
  it : Items
  late : Int
  f : Int
  pl : Int
  over : Bool

def outT (t : Int) : Bool := decide (t < 0) || decide (1099511627776 < t)
def far : Int := 1152921504606846976

/-- what comes of an item -/
def straight (y : Sr) (i : Nat) : Bool := outT (y.it.rt.getD i 0) || decide (y.it.rt.getD i 0 < y.f)
def Sr.ends (y : Sr) : Bool := decide (y.pl = y.it.im.length) || (y.it.im.getD y.pl.toNat false && decide (y.it.tm.getD y.pl.toNat 0 = far))
def nextK (y : Sr) : Int := if y.over = true then 0 else if y.ends = true then 4 else if y.it.im.getD y.pl.toNat false = true then 3 else if straight y y.pl.toNat = true then 2 else 1
def nextR (y : Sr) : Rec6 :=
  if y.over = true then noRec else if y.ends = true then noRec else if y.it.im.getD y.pl.toNat false = true then noRec else
  ⟨y.it.ky.getD y.pl.toNat 0, if straight y y.pl.toNat = true then y.f else y.it.rt.getD y.pl.toNat 0, if outT (y.it.rt.getD y.pl.toNat 0) = true then 0 else y.it.vl.getD y.pl.toNat 0, y.it.sd.getD y.pl.toNat 0, outT (y.it.rt.getD y.pl.toNat 0), !outT (y.it.rt.getD y.pl.toNat 0) && decide (y.it.rt.getD y.pl.toNat 0 < y.f)⟩
def next (y : Sr) : Sr :=
  if y.over = true then y else if y.ends = true then ⟨y.it, y.late, far, y.pl + 1, true⟩ else
  ⟨y.it, y.late, if (y.it.im.getD y.pl.toNat false && !outT (y.it.tm.getD y.pl.toNat 0)) = true then max y.f (y.it.tm.getD y.pl.toNat 0 - y.late) else y.f, y.pl + 1, false⟩

/-- read on, till a place -/
def runTo (k : Int) : Nat → Sr → Sr
  | 0, y => y
  | m + 1, y => if y.pl < k ∧ y.over = false then runTo k m (next y) else y
def start (y : Sr) : Sr := ⟨y.it, y.late, 0, 0, false⟩
def sought (y : Sr) (k : Int) : Sr := runTo k (y.it.im.length + 2) (start y)
def seekE (y : Sr) (k : Int) : Int := if (sought y k).pl = k then 0 else 2
def seek (y : Sr) (k : Int) : Sr := if (sought y k).pl = k then sought y k else y

def okSr (y : Sr) : Bool := lensI y.it y.it.im.length && (decide (y.it.im.length ≤ 1000) && (decide (0 ≤ y.late) && (decide (y.late ≤ 1073741824) && (decide (0 ≤ y.f) && (decide (y.f ≤ far) && (decide (0 ≤ y.pl) && (decide (y.pl ≤ y.it.im.length + 1) && (y.over || decide (y.pl ≤ y.it.im.length)))))))))

/-! ### In memory: without items the program's slice is nil, the document's is empty -/

def Sr.cells (y : Sr) (V : AVal) : Blk := .segs [⟨1, 1, [.val [V]]⟩, ⟨1, 1, [.int .i64 [y.late]]⟩, ⟨1, 1, [.int .i64 [y.f]]⟩, ⟨1, 1, [.int .i64 [y.pl]]⟩, ⟨1, 1, [.bool [y.over]]⟩]
def sl (i m : Nat) : AVal := .slice (.own i 0 0 8) m none
def zl (i : Nat) : AVal := .slice (.own i 0 0 8) 0 (some 0)

/-- which of the forms: nil, empty, or with items -/
inductive Kd
  | nil
  | zero
  | full
def slOf : Kd → Nat → Nat → AVal
  | .nil, _, _ => .nils
  | .zero, i, _ => zl i
  | .full, i, m => sl i m
structure Src where
  kd : Kd
  y : Sr
def Src.vs (s : Src) (i : Nat) : AVal := slOf s.kd i s.y.it.im.length
/-- no rows, not nil -/
def zBlk : Blk := .segs [⟨0, 8, [.val [], .val [], .val [], .val [], .val [], .val [], .val [], .val []]⟩]
def Src.rows (s : Src) : List Blk := match s.kd with
  | .nil => []
  | .zero => [zBlk]
  | .full => [s.y.it.blk]
def Src.blks (s : Src) : List Blk := s.y.cells (s.vs 1) :: s.rows
/-- the same items, another state -/
def Src.now (s : Src) (y : Sr) : List Blk := y.cells (s.vs 1) :: s.rows
def okSrc (s : Src) : Bool := okSr s.y && match s.kd with
  | .nil => s.y.it.im.isEmpty
  | .zero => s.y.it.im.isEmpty
  | .full => true

def okP (s : Src) : Bool := okSrc s && match s.kd with
  | .zero => false
  | _ => true
def okR (s : Src) : Bool := okSrc s && match s.kd with
  | .nil => false
  | _ => true

def srOf (it : Items) : Blk → Option (AVal × Sr)
  | .segs [⟨_, _, [.val [V]]⟩, ⟨_, _, [.int _ [late]]⟩, ⟨_, _, [.int _ [f]]⟩, ⟨_, _, [.int _ [pl]]⟩, ⟨_, _, [.bool [over]]⟩] => some (V, ⟨it, late, f, pl, over⟩)
  | _ => none
def srcOf (Bs : List Blk) : Option Src := match Bs with
  | [B] => match srOf .none B with
    | some (_, y) => some ⟨.nil, y⟩
    | none => none
  | B :: I :: _ => match srOf .none B with
    | some (.slice _ _ (some _), y) => some ⟨.zero, y⟩
    | some (.slice _ _ none, _) => match itemsOf I with
      | some it => match srOf it B with
        | some (_, y) => some ⟨.full, y⟩
        | none => none
      | none => none
    | _ => none
  | _ => none
def itOf (s : Src) : Items := s.y.it
def src1 (_ : List AVal) (Bs : List Blk) : Option Src := srcOf Bs

def nextG (ok : Src → Bool) : CDeal Src := ⟨fun _ => [.ptr (.own 0 0 0 0)], Src.blks, ok, fun s => .tup [(nextR s.y).v, .int .i64 (nextK s.y)], fun s => s.now (next s.y)⟩

def nextD : CDeal Src := nextG okP
def rnextD : CDeal Src := nextG okR

structure SrcK where
  s : Src
  k : Int
def srcK (us : List AVal) (Bs : List Blk) : Option SrcK := match us, srcOf Bs with
  | [_, .int _ k], some s => some ⟨s, k⟩
  | _, _ => none
def seekG (ok : Src → Bool) : CDeal SrcK := ⟨fun x => [.ptr (.own 0 0 0 0), .int .i64 x.k], fun x => x.s.blks, fun x => ok x.s, fun x => .int .i64 (seekE x.s.y x.k), fun x => x.s.now (seek x.s.y x.k)⟩
def seekD : CDeal SrcK := seekG okP
def rseekD : CDeal SrcK := seekG okR
def getD1 (out : Sr → AVal) : CDeal Src := ⟨fun _ => [.ptr (.own 0 0 0 0)], Src.blks, okP, fun s => out s.y, Src.blks⟩
def frontD : CDeal Src := getD1 fun y => .int .i64 y.f
def placeD : CDeal Src := getD1 fun y => .int .i64 y.pl
def overD : CDeal Src := getD1 fun y => .bool y.over

/-! ### Seek's loops -/

/-- the program's: the source, the variable that holds the new one, the items, the new one -/
structure Sk where
  s : Src
  t : Sr
  k : Int
def skT : Kd → Nat
  | .nil => 2
  | _ => 3
def Sk.blks (x : Sk) : List Blk := x.s.y.cells (x.s.vs 2) :: .segs [⟨1, 1, [.val [.ptr (.own (skT x.s.kd) 0 0 0)]]⟩] :: x.s.rows ++ [x.t.cells (x.s.vs 2)]
def Sk.ins (x : Sk) : List (Nat × AVal) := [(0, .ptr (.own 0 0 0 0)), (1, .int .i64 x.k), (5, .ptr (.own 1 0 0 0)), (6, .fn 23 [.ptr (.own 1 0 0 0)])]
def skO (us : List AVal) (Bs : List Blk) : Option Sk := match us with
  | [_, .int _ k, _, _] => match Bs with
    | [B, _, T] => match srcOf [B], srOf .none T with
      | some s, some (_, t) => some ⟨s, t, k⟩
      | _, _ => none
    | [B, _, I, T] => match srcOf [B, I] with
      | some s => match srOf s.y.it T with
        | some (_, t) => some ⟨s, t, k⟩
        | none => none
      | none => none
    | _ => none
  | _ => none
def okSk (ok : Src → Bool) (x : Sk) : Bool := ok x.s && (decide (x.t.late = x.s.y.late) && (decide (x.t.pl = 0) && (decide (x.t.f = 0) && !x.t.over)))
def Sk.end (x : Sk) : Sk := ⟨x.s, sought x.s.y x.k, x.k⟩
def skL : Deal Sk := ⟨Sk.ins, Sk.blks, okSk okP, fun _ => .exit 0, fun x => [(0, .ptr (.own 0 0 0 0)), (1, .int .i64 x.k), (5, .ptr (.own 1 0 0 0))], fun x => x.end.blks⟩

/-- the document's: the source, the new one, the items -/
def Sk.rblks (x : Sk) : List Blk := [x.s.y.cells (x.s.vs 2), x.t.cells (x.s.vs 2)] ++ x.s.rows
def Sk.rins (x : Sk) : List (Nat × AVal) := [(0, .ptr (.own 0 0 0 0)), (1, .int .i64 x.k), (5, .ptr (.own 1 0 0 0))]
def rskO (us : List AVal) (Bs : List Blk) : Option Sk := match us with
  | [_, .int _ k, _] => match Bs with
    | [B, T, I] => match srcOf [B, I] with
      | some s => match srOf s.y.it T with
        | some (_, t) => some ⟨s, t, k⟩
        | none => none
      | none => none
    | _ => none
  | _ => none
def rskL : Deal Sk := ⟨Sk.rins, Sk.rblks, okSk okR, fun _ => .exit 0, Sk.rins, fun x => x.end.rblks⟩

def S1 : Sums := sumF 14 (callG rnextD src1) (sumF 13 (callG nextD src1) noS)
def L1 : Loops := sumL 11 [false, false, true, true, true, true] (loopG 41 skL [0, 1, 5, 6] skO) (sumL 12 [false, false, true, true] (loopG 42 rskL [0, 1, 5] rskO) noL)

end Go.Proofs.Ytbpcfjhnkjobaaa
