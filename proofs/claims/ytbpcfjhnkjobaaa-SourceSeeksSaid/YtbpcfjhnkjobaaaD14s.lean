/- source: SourceSeeks: contracts of its loops. -/
import Derived.Test.YtbpcfjhnkjobaaaD14e
namespace Go.Proofs.Ytbpcfjhnkjobaaa
open Ab

/-- so many times read -/
def nth : Nat → Sr → Sr
  | 0, y => y
  | k + 1, y => next (nth k y)
/-- how many times, till it is over -/
def ageN : Nat → Sr → Nat
  | 0, _ => 0
  | m + 1, y => if y.over = true then 0 else ageN m (next y) + 1
def allN (y : Sr) : Nat := ageN (y.it.im.length + 2) y
def allI (y : Sr) : Int := (allN y : Int)
def fin (y : Sr) : Sr := nth (allN y) y
def nthI (k : Int) (y : Sr) : Sr := nth k.toNat y

/-- two sources of the same items -/
structure Sq where
  full : Bool
  y : Sr
  z : Sr
def Sq.blks (b : Nat) (x : Sq) : List Blk := match x.full with
  | true => [x.y.cells (sl (b + 2) x.y.it.im.length), x.z.cells (sl (b + 3) x.y.it.im.length), x.y.it.blk, x.y.it.blk]
  | false => [x.y.cells .nils, x.z.cells .nils]
def okSq (x : Sq) : Bool := okBoth x.full x.y && (okBoth x.full x.z && sameI x.z.it x.y.it)
def sqOf (Bs : List Blk) : Option Sq := match Bs with
  | [A, B, J, _] => match itemsOf J with
    | some it => match srOf it A, srOf it B with
      | some (_, y), some (_, z) => some ⟨true, y, z⟩
      | _, _ => none
    | none => none
  | [A, B] => match srOf .none A, srOf .none B with
    | some (_, y), some (_, z) => some ⟨false, y, z⟩
    | _, _ => none
  | _ => none
def sameS (y z : Sr) : Bool := decide (y.late = z.late) && (decide (y.f = z.f) && (decide (y.pl = z.pl) && (decide (y.over = z.over) && sameI y.it z.it)))

/-- the places; both sources; how many there are; the place that is sought -/
structure Sa where
  p : Int
  q : Int
  s : Sq
  al : Int
  n : Int
def boxB (p q : Int) : Blk := .segs [⟨2, 1, [.int .u16 [p, q]]⟩]
def Sa.box (x : Sa) : List Blk := boxB x.p x.q :: x.s.blks 1
def saO (al : AVal) (n : AVal) (Bs : List Blk) : Option Sa := match al, n with
  | .int _ al, .int _ n => match Bs with
    | .segs [⟨_, _, [.int _ [p, q]]⟩] :: Bs => match sqOf Bs with
      | some s => some ⟨p, q, s, al, n⟩
      | none => none
    | _ => none
  | _, _ => none
def sbO (al : AVal) (n : AVal) (Bs : List Blk) : Option Sa := match al, n with
  | .int _ al, .int _ n => match sqOf Bs with
    | some s => some ⟨0, 0, s, al, n⟩
    | none => none
  | _, _ => none

/-- how a source stands -/
structure Fp where
  f : Int
  pl : Int
  over : Bool
def Fp.on (a : Fp) (y : Sr) : Sr := ⟨y.it, y.late, a.f, a.pl, a.over⟩
structure Fq where
  al : Int
  a : Fp
/-- the first: till the second one is over -/
def s1P (x : Sa) (a : Fq) : Prop := a.al = allI x.s.z ∧ a.a.on x.s.z = fin x.s.z
def Sa.at1 (x : Sa) (al : Int) : List (Nat × AVal) := [(5, .ptr (.own 0 0 0 0)), (8, .ptr (.own 1 0 0 0)), (9, .ptr (.own 2 0 0 0)), (10, .int .i64 al)]
def s1O (us : List AVal) (Bs : List Blk) : Option Sa := match us with
  | [_, _, _, al] => saO al (.int .i64 0) Bs
  | _ => none
def s1D : RDeal Sa where
  ins x := x.at1 0
  blks := Sa.box
  pre x := okSq x.s && (decide (x.s.z.pl = 0) && (decide (x.s.z.f = 0) && !x.s.z.over))
  alts := [⟨Fq, .exit 0, s1P, fun x a => x.at1 a.al, fun x a => (⟨x.p, x.q, ⟨x.s.full, x.s.y, a.a.on x.s.z⟩, x.al, x.n⟩ : Sa).box⟩]
/-- the second: the first one reads -/
def Sa.at2 (x : Sa) (i : Int) : List (Nat × AVal) := [(5, .ptr (.own 0 0 0 0)), (8, .ptr (.own 1 0 0 0)), (9, .ptr (.own 2 0 0 0)), (10, .int .i64 x.al), (11, .int .i64 x.n), (12, .int .i64 i)]
def Sa.out2 (x : Sa) : List (Nat × AVal) := [(8, .ptr (.own 0 0 0 0)), (9, .ptr (.own 1 0 0 0)), (10, .int .i64 x.al), (11, .int .i64 x.n)]
def s2O (us : List AVal) (Bs : List Blk) : Option Sa := match us with
  | [_, _, _, al, n, _] => saO al n Bs
  | _ => none
def Sa.j (x : Sa) : Int := Int.tmod x.q (x.al + 2)
def s2P (x : Sa) (a : Fp) : Prop := a.on x.s.y = nthI x.j x.s.y
def s2D : RDeal Sa where
  ins x := x.at2 0
  blks := Sa.box
  pre x := okSq x.s && (decide (0 ≤ x.q) && (decide (x.q < 65536) && (decide (0 ≤ x.al) && decide (x.al ≤ 1001))))
  alts := [⟨Fp, .exit 2, s2P, fun x _ => x.out2, fun x a => (⟨x.s.full, a.on x.s.y, x.s.z⟩ : Sq).blks 0⟩]
/-- the third: the second one reads, as far as the first one sought -/
def Sa.at3 (x : Sa) (i : Int) : List (Nat × AVal) := x.out2 ++ [(13, .int .i64 i)]
def s3O (us : List AVal) (Bs : List Blk) : Option Sa := match us with
  | [_, _, al, n, _] => sbO al n Bs
  | _ => none
def s3P (x : Sa) (a : Fp) : Prop := a.on x.s.z = nthI x.n x.s.z
def s3D : RDeal Sa where
  ins x := x.at3 0
  blks x := x.s.blks 0
  pre x := okSq x.s && (decide (0 ≤ x.n) && decide (x.n ≤ 1001))
  alts := [⟨Fp, .exit 4, s3P, fun x _ => x.out2, fun x a => (⟨x.s.full, x.s.y, a.on x.s.z⟩ : Sq).blks 0⟩]
/-- the fourth: both read on -/
def Sa.at4 (x : Sa) (i : Int) : List (Nat × AVal) := [(8, .ptr (.own 0 0 0 0)), (9, .ptr (.own 1 0 0 0)), (10, .int .i64 x.al), (14, .int .i64 i)]
def s4O (us : List AVal) (Bs : List Blk) : Option Sa := match us with
  | [_, _, al, n] => sbO al n Bs
  | _ => none
def ok4 (x : Sa) : Bool := okSq x.s && (sameS x.s.y (nthI x.n (start x.s.y)) && (sameS x.s.z x.s.y && (decide (x.al = allI (start x.s.y)) && (decide (0 ≤ x.n) && decide (x.n ≤ x.al)))))
def s4P (x : Sa) (a : Fp) : Prop := a.on x.s.y = fin (start x.s.y)
def s4D : RDeal Sa where
  ins x := x.at4 x.n
  blks x := x.s.blks 0
  pre := ok4
  alts := [⟨Fp, .exit 6, s4P, fun x _ => [(8, .ptr (.own 0 0 0 0)), (10, .int .i64 x.al)], fun x a => match x.s.full with
    | true => [(a.on x.s.y).cells (sl 1 x.s.y.it.im.length), x.s.y.it.blk]
    | false => [(a.on x.s.y).cells .nils]⟩]
def p1 : List Bool := [false, false, true, true, true, true, true, true, true]
def p2 : List Bool := [false, true, false, true, true, true, true, true, true, true, true, true]
def p3 : List Bool := [false, true, false, true, true, true, true, true, true, true, true, true, true, true]
def p4 : List Bool := [false, true, false, true, true, true, true, true, true, true, true, true, true, true, true]
def TS : Tolds := sumT 5 p1 (toldR 161 s1D [5, 8, 9, 10] s1O) (sumT 5 p2 (toldR 161 s2D [5, 8, 9, 10, 11, 12] s2O) (sumT 5 p3 (toldR 161 s3D [8, 9, 10, 11, 13] s3O) (sumT 5 p4 (toldR 161 s4D [8, 9, 10, 14] s4O) noT)))

/-- the rest of the law, behind the new sources -/
structure Tl where
  p : Int
  q : Int
  full : Bool
  y : Sr
def Tl.sa (x : Tl) : Sa := ⟨x.p, x.q, ⟨x.full, x.y, x.y⟩, 0, 0⟩
def tlO (_ : List AVal) (Bs : List Blk) : Option Tl := match Bs with
  | .segs [⟨_, _, [.int _ [p, q]]⟩] :: Bs => match sqOf Bs with
    | some s => some ⟨p, q, s.full, s.y⟩
    | none => none
  | _ => none
def Tl.ins (_ : Tl) : List (Nat × AVal) := [(5, .ptr (.own 0 0 0 0)), (8, .ptr (.own 1 0 0 0)), (9, .ptr (.own 2 0 0 0))]
def okTl (x : Tl) : Bool := okBoth x.full x.y && (decide (x.y.f = 0) && (decide (x.y.pl = 0) && (!x.y.over && (decide (0 ≤ x.p) && (decide (x.p < 65536) && (decide (0 ≤ x.q) && decide (x.q < 65536)))))))
def tlD : RDeal Tl where
  ins := Tl.ins
  blks x := x.sa.box
  pre := okTl
  alts := [⟨Unit, .ret, fun _ _ => True, fun _ _ => [(6, .bool true)], fun _ _ => []⟩]
def pR : List Bool := [true, true, true, true, true, true]
def TR : Tolds := sumT 5 pR (toldR 161 tlD [5, 8, 9] tlO) noT

end Go.Proofs.Ytbpcfjhnkjobaaa
