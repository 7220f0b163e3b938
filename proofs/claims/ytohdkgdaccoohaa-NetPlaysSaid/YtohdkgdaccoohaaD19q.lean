/- net: NetPlays: the acts and the loops, told. -/
import Derived.Test.YtohdkgdaccoohaaD19p
namespace Go.Proofs.Ytohdkgdaccoohaa
open Ab

def Nt.lv (y : Nt) : List ByteArray := y.xs.take y.n
/-- the two nets are alike -/
def relB (y : Nt) (r : Rr) (i : Nat) : Bool := okRf r.f && (decide (r.f.list = y.lv) && (decide (r.s = y.s) && (decide (r.l = y.l) && (decide (r.c = (y.xs.length : Nat)) && (decide (y.n ≤ y.xs.length) && (decide (4 ≤ y.xs.length) && (decide (y.xs.length ≤ 64) && (decide (0 ≤ y.s) && (decide (y.s ≤ i) && (decide (0 ≤ y.l) && decide (y.l ≤ i)))))))))))
structure Pl where
  V : AVal
  y : Nt
  r : Rr
  i : Int
def twoB (y : Nt) (r : Rr) : List Blk := y.bi 2 :: r.b0 3 :: y.b1 :: r.f.bs
def Pl.at (x : Pl) : List (Nat × AVal) := [(1, x.V), (5, .ptr (.own 0 0 0 0)), (6, .ptr (.own 1 0 0 0)), (7, .int .i64 x.i)]
def Pl.blks (x : Pl) : List Blk := twoB x.y x.r
def bothOf : List Blk → Option (Nt × Rr)
  | A :: R :: B :: Bs => match ntOf [A, B], rrOf (R :: Bs) with
    | some y, some r => some (y, r)
    | _, _ => none
  | _ => none
def plO (us : List AVal) (Bs : List Blk) : Option Pl := match us, bothOf Bs with
  | [V, _, _, .int _ i], some (y, r) => some ⟨V, y, r, i⟩
  | _, _ => none
structure Pw where
  p : Pl
  k : Int
  w : Int
def pwO (us : List AVal) (Bs : List Blk) : Option Pw := match us, bothOf Bs with
  | [V, _, _, .int _ i, .int _ k, .int _ w], some (y, r) => some ⟨⟨V, y, r, i⟩, k, w⟩
  | _, _ => none
structure Ag where
  y : Nt
  c : Int
  s : Int
  l : Int
  L : List ByteArray
def Ag.r (a : Ag) (f : Rf) : Rr := ⟨a.c, f, a.s, a.l⟩
def Pw.ins (x : Pw) : List (Nat × AVal) := x.p.at ++ [(9, .int .i64 x.k), (61, .int .u8 x.w)]
def Pl.out (x : Pl) : List (Nat × AVal) := x.at ++ [(8, .bool true)]
def swAlt (f : Ag → Rf) : RAlt Pw := ⟨Ag, .normal, fun x a => relB a.y (a.r (f a)) (x.p.i.toNat + 1) = true, fun x _ => x.p.out, fun _ a => twoB a.y (a.r (f a))⟩
def fN (_ : Ag) : Rf := .n
def fE (_ : Ag) : Rf := .e
def fG (a : Ag) : Rf := .g a.L
def pwB (T : Tb) (x : Pw) : Bool := okV T x.p.V && (decide (0 ≤ x.p.i) && (decide (x.p.i < T.w.length) && (decide (x.p.i < T.t.length) && (decide (x.p.i < 100) && relB x.p.y x.p.r x.p.i.toNat))))
def pwD (T : Tb) : RDeal Pw where
  ins := Pw.ins
  blks x := x.p.blks
  pre := pwB T
  alts := [swAlt fN, swAlt fE, swAlt fG]
def goneTx : ByteArray := ⟨⟨[103, 111, 110, 101]⟩⟩
def isN : Rf → Bool
  | .n => true
  | _ => false
def plAlt (f : Ag → Rf) : RAlt Pl := ⟨Ag, .exit 0, fun _ a => relB a.y (a.r (f a)) 100 = true, fun _ _ => [(5, .ptr (.own 0 0 0 0)), (6, .ptr (.own 1 0 0 0))], fun _ a => twoB a.y (a.r (f a))⟩
def plD (T : Tb) : RDeal Pl where
  ins := Pl.at
  blks := Pl.blks
  pre x := okV T x.V && (isN x.r.f && (decide (x.i = 0) && relB x.y x.r 0))
  alts := [plAlt fN, plAlt fE, plAlt fG]
structure Fi where
  y : Nt
  r : Rr
  i : Int
def fiO (us : List AVal) (Bs : List Blk) : Option Fi := match us, bothOf Bs with
  | [_, _, .int _ i], some (y, r) => some ⟨y, r, i⟩
  | _, _ => none
def Fi.ins (x : Fi) : List (Nat × AVal) := [(5, .ptr (.own 0 0 0 0)), (6, .ptr (.own 1 0 0 0)), (15, .int .i64 x.i)]
def fiD : RDeal Fi where
  ins := Fi.ins
  blks x := twoB x.y x.r
  pre x := decide (x.i = 0) && relB x.y x.r 100
  alts := [⟨Unit, .exit 3, fun _ _ => True, fun _ _ => [], fun _ _ => []⟩]
def qA : List Bool := [true, false, true, true, false, false, true, false, false, true, false, true, true, true, true, true]
def qK : List Bool := [false, true, false, true, true, true, true, true]
def qF : List Bool := [false, true, false, true, true, true, true, true, true]
def TA2 (T : Tb) : Tolds := sumT 3 qA (toldR 189 (pwD T) [1, 5, 6, 7, 9, 61] pwO) noT
def TK2 (T : Tb) : Tolds := sumT 3 qK (toldR 189 (plD T) [1, 5, 6, 7] plO) (sumT 3 qF (toldR 189 fiD [5, 6, 15] fiO) noT)

end Go.Proofs.Ytohdkgdaccoohaa
