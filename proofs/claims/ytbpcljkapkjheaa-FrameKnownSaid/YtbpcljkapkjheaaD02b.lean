/- frame: FrameBack: the loops: told. -/
import Derived.Test.YtbpcljkapkjheaaD02p
namespace Go.Proofs.Ytbpcljkapkjheaa
open Ab

def catT (M : List ByteArray) : ByteArray := M.foldl (fun s t => s ++ frameT t) noTx
/-- where frames end -/
def plc : Int → List ByteArray → List Int
  | _, [] => []
  | b, t :: M => (b + t.size + 5) :: plc (b + t.size + 5) M
def plB (pl : List Int) : Blk := .segs [⟨pl.length, 1, [.int .i64 pl]⟩]
structure Bk where
  r : ByteArray
  own : List ByteArray
  pl : List Int
def ownL (L : List ByteArray) : List ByteArray := (L.take 20).map cut5
def bkOf (M : List ByteArray) : Bk := ⟨catT M, M, plc 0 M⟩
def b1N (L : List ByteArray) (y : Bk) : Prop := y = bkOf (ownL L) ∧ y.own = []
def b1G (L : List ByteArray) (y : Bk) : Prop := y = bkOf (ownL L) ∧ 0 < y.own.length
structure B1 where
  V : AVal
  q : Int
  s : ByteArray
  r : ByteArray
def B1.at (x : B1) (O P : AVal) (i : Int) : List (Nat × AVal) := [(0, x.V), (1, .int .u16 x.q), (2, .str x.s), (7, .str x.r), (8, O), (9, P), (10, .int .i64 i)]
def b1O (us : List AVal) (_ : List Blk) : Option B1 := match us with
  | [V, .int _ q, .str s, .str r, _, _, _] => some ⟨V, q, s, r⟩
  | _ => none
def plV (pl : List Int) (j : Nat) : AVal := .slice (.own j 0 0 1) pl.length none
def b1D (L : List ByteArray) : RDeal B1 where
  ins x := x.at .nils .nils 0
  blks _ := []
  pre x := okS L x.V && decide (x.r.size = 0)
  alts := [⟨Bk, .exit 0, fun _ y => b1N L y, fun x y => [(1, .int .u16 x.q), (2, .str x.s), (7, .str y.r), (8, .nils), (9, .nils)], fun _ _ => []⟩,
    ⟨Bk, .exit 0, fun _ y => b1G L y, fun x y => [(1, .int .u16 x.q), (2, .str x.s), (7, .str y.r), (8, liV y.own 0), (9, plV y.pl 1)], fun _ y => [txB y.own, plB y.pl]⟩]
def pB1 : List Bool := [false, true, false, true, true, true, true, true]

/-! ### So many are whole -/

def cntP : List Int → Int → Nat
  | [], _ => 0
  | p :: l, n => if p ≤ n then cntP l n + 1 else 0
def endP : List Int → Int → Int → Int
  | [], _, e => e
  | p :: l, n, e => if p ≤ n then endP l n p else e
structure Wh where
  k : Int
  e : Int
def whP (pl : List Int) (n : Int) (y : Wh) : Prop := y.k = (cntP pl n : Nat) ∧ y.e = endP pl n 0
structure B2 where
  s : ByteArray
  r : ByteArray
  f : Bool
  own : List ByteArray
  pl : List Int
  n : Int
def B2.O (x : B2) : AVal := match x.f with
  | true => liV x.own 0
  | false => .nils
def B2.P (x : B2) : AVal := match x.f with
  | true => plV x.pl 1
  | false => .nils
def B2.bs (x : B2) : List Blk := match x.f with
  | true => [txB x.own, plB x.pl]
  | false => []
def B2.os (x : B2) : List Blk := match x.f with
  | true => [txB x.own]
  | false => []
def B2.at (x : B2) (k e : Int) : List (Nat × AVal) := [(2, .str x.s), (7, .str x.r), (8, x.O), (9, x.P), (17, .int .i64 x.n), (18, .int .i64 k), (19, .int .i64 e)]
def b2O (us : List AVal) (Bs : List Blk) : Option B2 := match us, Bs with
  | [.str s, .str r, .nils, _, .int _ n, _, _], _ => some ⟨s, r, false, [], [], n⟩
  | [.str s, .str r, .slice _ _ _, _, .int _ n, _, _], [.segs [⟨_, _, [.str own]⟩], .segs [⟨_, _, [.int _ pl]⟩]] => some ⟨s, r, true, own, pl, n⟩
  | _, _ => none
def b2D : RDeal B2 where
  ins x := x.at 0 0
  blks := B2.bs
  pre x := decide (x.pl.length ≤ 1000) && (x.f || x.pl.isEmpty)
  alts := [⟨Wh, .exit 2, fun x y => whP x.pl x.n y, fun x y => [(2, .str x.s), (7, .str x.r), (8, x.O), (17, .int .i64 x.n), (18, .int .i64 y.k), (19, .int .i64 y.e)], fun x _ => x.os⟩]
def pB2 : List Bool := [false, false, true, true, true, true, true, true, true, true, true, true]

/-! ### What was read is laid again -/

def okL (L : List ByteArray) : Bool := decide (L.length ≤ 1000) && L.all fun t => decide (t.size ≤ 1000)
structure B3 where
  s : ByteArray
  a : Int
  f : Bool
  L : List ByteArray
def B3.O (x : B3) : AVal := match x.f with
  | true => liV x.L 0
  | false => .nils
def B3.bs (x : B3) : List Blk := match x.f with
  | true => [txB x.L]
  | false => []
def B3.at (x : B3) (g : ByteArray) (i : Int) : List (Nat × AVal) := [(2, .str x.s), (15, .int .i64 x.a), (21, x.O), (23, .str g), (24, .int .i64 i)]
structure B4 where
  x : B3
  g : ByteArray
def b3O (us : List AVal) (Bs : List Blk) : Option B4 := match us, Bs with
  | [.str s, .int _ a, .nils, .str g, _], _ => some ⟨⟨s, a, false, []⟩, g⟩
  | [.str s, .int _ a, .slice _ _ _, .str g, _], [.segs [⟨_, _, [.str L]⟩]] => some ⟨⟨s, a, true, L⟩, g⟩
  | _, _ => none
def isCat (L : List ByteArray) (y : ByteArray) : Prop := y = catT L
def b3D : RDeal B4 where
  ins y := y.x.at y.g 0
  blks y := y.x.bs
  pre y := okL y.x.L && (decide (y.g.size = 0) && (y.x.f || y.x.L.isEmpty))
  alts := [⟨ByteArray, .exit 4, fun x y => isCat x.x.L y, fun x y => [(2, .str x.x.s), (15, .int .i64 x.x.a), (23, .str y)], fun _ _ => []⟩]
def pB3 : List Bool := [false, true, false, true, true, true, true, true, true, true, true, true, true, true, true, true, true, true, true]
def TB (L : List ByteArray) : Tolds := sumT 5 pB1 (toldR 193 (b1D L) [0, 1, 2, 7, 8, 9, 10] b1O) (sumT 5 pB2 (toldR 193 b2D [2, 7, 8, 9, 17, 18, 19] b2O) (sumT 5 pB3 (toldR 193 b3D [2, 15, 21, 23, 24] b3O) noT))
end Go.Proofs.Ytbpcljkapkjheaa
