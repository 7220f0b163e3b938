/- net: NetKeeps: the acts, told. -/
import Derived.Test.YtohdkgdaccoohaaD19b
namespace Go.Proofs.Ytohdkgdaccoohaa
open Ab

/-- an act keeps what holds -/
def keptQ (y : Nt) (i : Int) (a : Af) : Prop := (invB a.y a.th a.s a.d (i.toNat + 1) && decide (a.y.xs.length = y.xs.length)) = true

def Sw.ok (x : Sw) (T : Tb) : Bool := okV T x.V && (decide (0 ≤ x.i) && (decide (x.i < T.w.length) && (decide (x.i < 200) && invB x.y x.th x.s x.d x.i.toNat)))
def Sw.out (x : Sw) (a : Af) : List (Nat × AVal) := (⟨x.V, a.y, a.th, a.s, a.d⟩ : Kp).at x.i
def Sw.oB (x : Sw) (a : Af) : List Blk := (⟨x.V, a.y, a.th, a.s, a.d⟩ : Kp).blks
def actD (T : Tb) : RDeal Sw where
  ins := Sw.ins
  blks x := x.kp.blks
  pre x := x.ok T
  alts := [⟨Af, .normal, fun x a => keptQ x.y x.i a, Sw.out, Sw.oB⟩]
/-- the first act needs no place -/
def sendA (T : Tb) : RDeal Sw where
  ins x := x.kp.at x.i
  blks x := x.kp.blks
  pre x := x.ok T
  alts := [⟨Af, .normal, fun x a => keptQ x.y x.i a, Sw.out, Sw.oB⟩]
def sendO (us : List AVal) (Bs : List Blk) : Option Sw := match us, Bs with
  | [V, _, _, _, .int _ s, .int _ d, .int _ i], [A, .segs [⟨_, _, [.int _ th]⟩], B] => match ntOf [A, B] with
    | some y => some ⟨V, y, th, s, d, i, 0⟩
    | none => none
  | _, _ => none
def aS : List Bool := [false, true, false, true, false, true, false, false, true, false, false, true, false, true, true, true, true, true, true, true]
def aD : List Bool := [false, true, true, true, false, true, false, true, false, false, true, false, false, true, false, true, true, true, true, true, true, true]
def aL : List Bool := [false, true, true, true, true, true, false, true, false, true, false, false, true, false, false, true, false, true, true, true, true, true, true, true]
def aT : List Bool := [true, true, true, true, true, true, false, true, false, true, false, false, true, false, false, true, false, true, true, true, true, true, true, true]
def TAc (T : Tb) : Tolds := sumT 4 aS (toldR 173 (sendA T) [1, 5, 6, 7, 8, 9, 10] sendO) (sumT 4 aD (toldR 173 (actD T) [1, 5, 6, 7, 8, 9, 10, 11] swO) (sumT 4 aL (toldR 173 (actD T) [1, 5, 6, 7, 8, 9, 10, 11] swO) (sumT 4 aT (toldR 173 (actD T) [1, 5, 6, 7, 8, 9, 10, 11] swO) noT)))

/-- behind a copy: the net, its copy, how many there were -/
structure Tc where
  V : AVal
  m : Int
  y : Nt
  th : List Int
  s : Int
  d : Int
  i : Int
  b : Int
  z : Nt
def byteOf (t : ByteArray) : Nat := (t.data.toList.getD 0 0).toNat
def Tc.t (x : Tc) : ByteArray := x.z.text x.b
def Tc.fr (x : Tc) : List (Nat × AVal) := [(1, x.V), (5, .int .i64 x.m), (6, .ptr (.own 0 0 0 0)), (7, .ptr (.own 1 0 0 0)), (8, .int .i64 x.s), (9, .int .i64 x.d), (10, .int .i64 x.i)]
def Tc.ins (x : Tc) : List (Nat × AVal) := x.fr ++ [(14, .int .i64 x.b), (15, .ptr (.own 2 0 0 0))]
def Tc.blks (x : Tc) : List Blk := [x.y.bi 3, .segs [⟨201, 1, [.int .i64 x.th]⟩], x.z.bi 4, x.y.b1, x.z.b1]
def tcO (us : List AVal) (Bs : List Blk) : Option Tc := match us, Bs with
  | [V, .int _ m, _, _, .int _ s, .int _ d, .int _ i, .int _ b, _], [A, .segs [⟨_, _, [.int _ th]⟩], C, B, D] => match ntOf [A, B], ntOf [C, D] with
    | some y, some z => some ⟨V, m, y, th, s, d, i, b, z⟩
    | _, _ => none
  | _, _ => none
def isSl : AVal → Bool
  | .slice (.ro 0 0 0 0) _ none => true
  | _ => false
def tcB (x : Tc) : Bool := isSl x.V && (okNt x.y && (okNt x.z && (decide (0 ≤ x.b) && (decide (x.b ≤ 64) && (decide ((x.y.n : Int) = x.b + 1) && (decide (x.b < x.z.n) && (decide (x.th.length = 201) && (decide (x.t.size = 1) && (decide (byteOf x.t < 200) && (decide (1 ≤ x.th.getD (byteOf x.t) 0) && decide (x.th.getD (byteOf x.t) 0 ≤ 1000)))))))))))
def upAt (th : List Int) (k : Nat) : List Int := th.set k (th.getD k 0 + 1)
def tcD : RDeal Tc where
  ins := Tc.ins
  blks := Tc.blks
  pre := tcB
  alts := [⟨Unit, .normal, fun _ _ => True, fun x _ => x.fr, fun x _ => [x.y.bi 2, .segs [⟨201, 1, [.int .i64 (upAt x.th (byteOf x.t))]⟩], x.y.b1]⟩]
def aC : List Bool := [true, true, false, true, true, true, true, true, true, true, true, false, true, false, true, false, false, true, false, false, true, false, true, true, true, true, true, true, true]
def TTc : Tolds := sumT 4 aC (toldR 173 tcD [1, 5, 6, 7, 8, 9, 10, 14, 15] tcO) noT

end Go.Proofs.Ytohdkgdaccoohaa
