/- oper: records, lists of operators; contracts of Apply's loops. -/
import Derived.Test.YtbfebjmmpiffpaaD04
namespace Go.Proofs.Ytbfebjmmpiffpaa
open Ab

structure Rc where
  key : Int
  time : Int
  val : Int
  side : Int
  err : Bool
  late : Bool
def Rc.v (r : Rc) : AVal := .agg [.int .u32 r.key, .int .i64 r.time, .int .i64 r.val, .int .u8 r.side, .bool r.err, .bool r.late]
/-- records, by their fields -/
structure Rs where
  ks : List Int
  ts : List Int
  vs : List Int
  ss : List Int
  es : List Bool
  ls : List Bool
def Rs.blk (x : Rs) : Blk := .segs [⟨x.ks.length, 6, [.int .u32 x.ks, .int .i64 x.ts, .int .i64 x.vs, .int .u8 x.ss, .bool x.es, .bool x.ls]⟩]
def Rs.of (l : List Rc) : Rs := ⟨l.map Rc.key, l.map Rc.time, l.map Rc.val, l.map Rc.side, l.map Rc.err, l.map Rc.late⟩
def Rs.none : Rs := ⟨[], [], [], [], [], []⟩
def rsOf : Blk → Option Rs
  | .segs [⟨_, _, [.int _ a, .int _ b, .int _ c, .int _ d, .bool e, .bool f]⟩] => some ⟨a, b, c, d, e, f⟩
  | _ => none
/-- operators, by their fields -/
structure Os where
  kk : List Int
  aa : List Int
  bb : List Int
  gg : List Int
def Os.blk (x : Os) : Blk := .segs [⟨x.kk.length, 4, [.int .i64 x.kk, .int .i64 x.aa, .int .i64 x.bb, .int .i64 x.gg]⟩]
def osOf : Blk → Option Os
  | .segs [⟨_, _, [.int _ a, .int _ b, .int _ c, .int _ d]⟩] => some ⟨a, b, c, d⟩
  | _ => none
def Os.of (l : List Op4) : Os := ⟨l.map Op4.k, l.map Op4.a, l.map Op4.b, l.map Op4.g⟩
def Os.none : Os := ⟨[], [], [], []⟩
def Op4.cells (x : Op4) : Blk := .segs [⟨1, 1, [.int .i64 [x.k]]⟩, ⟨1, 1, [.int .i64 [x.a]]⟩, ⟨1, 1, [.int .i64 [x.b]]⟩, ⟨1, 1, [.int .i64 [x.g]]⟩]
def opOf : Blk → Option Op4
  | .segs [⟨_, _, [.int _ [k]]⟩, ⟨_, _, [.int _ [a]]⟩, ⟨_, _, [.int _ [b]]⟩, ⟨_, _, [.int _ [g]]⟩] => some ⟨k, a, b, g⟩
  | _ => Option.none
def cellB (V : AVal) : Blk := .segs [⟨1, 1, [.val [V]]⟩]

/-! ### What an operator makes of a record -/

def doesB (x : Op4) : Bool := mayB x && decide (classE x = 0)
def keyOf (x : Op4) (r : Rc) : Int := wr .u32 (wr .u32 (Int.tmod (wr .u64 r.key) (wr .u64 x.a)) + wr .u32 x.b)
def leftOf (x : Op4) (r : Rc) : Int := if Int.tmod r.val x.a < 0 then wr .i64 (Int.tmod r.val x.a + x.a) else Int.tmod r.val x.a
def up (x : Op4) (r : Rc) : Rc := ⟨r.key, r.time, wr .i64 (r.val + x.b), r.side, r.err, r.late⟩
def copies (x : Op4) : Nat → Rc → List Rc
  | 0, _ => []
  | m + 1, r => r :: copies x m (up x r)
def makes (x : Op4) (r : Rc) : List Rc :=
  if r.err = true ∨ r.late = true then [r] else
  if x.k = 0 then [⟨r.key, r.time, wr .i64 (wr .i64 (r.val * x.a) + x.b), r.side, r.err, r.late⟩] else
  if x.k = 1 then [⟨keyOf x r, r.time, r.val, r.side, r.err, r.late⟩] else
  if x.k = 2 then if leftOf x r = x.b then [r] else [] else copies x x.a.toNat r
def step (x : Op4) (l : List Rc) : List Rc := if doesB x = true then l.flatMap (makes x) else l
def apply (o : List Op4) (r : Rc) : List Rc := o.foldl (fun l x => step x l) [r]

/-! ### The inner loop -/

/-- the operators, which of them -/
structure Fr where
  o : Os
  c : Option Nat
  n : Int
  i : Int
def Fr.ts (x : Fr) (j : Nat) : List (Nat × AVal) := [(15, .slice (.own j 0 0 4) x.o.kk.length x.c), (16, .int .i64 x.n), (17, .int .i64 x.i)]
def fnV (k : Int) : AVal := if k = 0 then .fn 24 [] else if k = 1 then .fn 27 [] else if k = 2 then .fn 30 [] else .fn 32 []
structure Rd where
  x : Op4
  f : Fr
  full : Bool
  l : List Rc
  c : Option Nat
def Rd.lV (x : Rd) (j : Nat) (l : Rs) : AVal := match x.full with
  | true => .slice (.own j 0 0 6) l.ks.length x.c
  | false => .nils
def Rd.at (x : Rd) (l : Rs) (n i : Int) : List (Nat × AVal) := [(7, .ptr (.own 1 0 0 0)), (8, fnV x.x.k), (9, .ptr (.own 2 0 0 0))] ++ x.f.ts 0 ++ [(34, x.lV 3 l), (35, .int .i64 n), (36, .int .i64 i)]
/-- of the records that were made: none, or some -/
def oV (full : Bool) (j n : Nat) : AVal := match full with
  | true => .slice (.own j 0 0 6) n none
  | false => .nils
def oB (full : Bool) (o : Rs) : List Blk := match full with
  | true => [o.blk]
  | false => []
def Rd.blks (x : Rd) (l : Rs) (oj : Nat) (of : Bool) (o : Rs) : List Blk := [x.f.o.blk, x.x.cells, cellB (oV of oj o.ks.length)] ++ ((match x.full with
  | true => [l.blk]
  | false => []) ++ oB of o)

end Go.Proofs.Ytbfebjmmpiffpaa
