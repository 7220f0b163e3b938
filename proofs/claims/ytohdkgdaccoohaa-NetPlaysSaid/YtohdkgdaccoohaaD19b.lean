/- net: NetKeeps: the acts' loop. -/
import Derived.Test.YtohdkgdaccoohaaD19
namespace Go.Proofs.Ytohdkgdaccoohaa
open Ab

/-- the acts -/
structure Tb where
  w : List Int
  k : List Int
  t : List ByteArray
def tabN (T : Tb) : Nat → Nat → Seg := fun _ _ => ⟨T.w.length, 3, [.int .u8 T.w, .int .i8 T.k, .str T.t]⟩
def okV (T : Tb) : AVal → Bool
  | .nils => Nat.beq T.w.length 0
  | .slice (.ro 0 0 0 0) n none => decide (n = T.w.length)
  | _ => false

def Nt.bi (y : Nt) (i : Nat) : Blk := .segs [⟨1, 1, [.val [.slice (.own i 0 0 1) y.n (some y.xs.length)]]⟩, ⟨2, 1, [.int .i64 [y.s, y.l]]⟩]
structure Kp where
  V : AVal
  y : Nt
  th : List Int
  s : Int
  d : Int
def Kp.at (x : Kp) (i : Int) : List (Nat × AVal) := [(1, x.V), (5, .int .i64 x.y.xs.length), (6, .ptr (.own 0 0 0 0)), (7, .ptr (.own 1 0 0 0)), (8, .int .i64 x.s), (9, .int .i64 x.d), (10, .int .i64 i)]
def Kp.blks (x : Kp) : List Blk := [x.y.bi 2, .segs [⟨201, 1, [.int .i64 x.th]⟩], x.y.b1]
def kpO (us : List AVal) (Bs : List Blk) : Option Kp := match us, Bs with
  | [V, _, _, _, .int _ s, .int _ d, _], [A, .segs [⟨_, _, [.int _ th]⟩], B] => match ntOf [A, B] with
    | some y => some ⟨V, y, th, s, d⟩
    | none => none
  | _, _ => none
def kpD (T : Tb) : RDeal Kp where
  ins x := x.at 0
  blks := Kp.blks
  pre x := okV T x.V && (decide (x.y.n = 0) && (okNt x.y && (decide (x.th = List.replicate 201 (0 : Int)) && (decide (x.y.s = 0) && (decide (x.y.l = 0) && (decide (x.s = 0) && decide (x.d = 0)))))))
  alts := [⟨Unit, .exit 0, fun _ _ => True, fun _ _ => [], fun _ _ => []⟩]
/-- within a round: the act is to be done -/
structure Sw where
  V : AVal
  y : Nt
  th : List Int
  s : Int
  d : Int
  i : Int
  k : Int
def Sw.kp (x : Sw) : Kp := ⟨x.V, x.y, x.th, x.s, x.d⟩
def Sw.ins (x : Sw) : List (Nat × AVal) := x.kp.at x.i ++ [(11, .int .i64 x.k)]
def swO (us : List AVal) (Bs : List Blk) : Option Sw := match us, Bs with
  | [V, _, _, _, .int _ s, .int _ d, .int _ i, .int _ k], [A, .segs [⟨_, _, [.int _ th]⟩], B] => match ntOf [A, B] with
    | some y => some ⟨V, y, th, s, d, i, k⟩
    | none => none
  | _, _ => none
def txt (b : Nat) : ByteArray := ⟨⟨[UInt8.ofNat b]⟩⟩
def byteB (t : ByteArray) : Bool := (List.range 200).any fun b => decide (t = txt b)
/-- what holds between the rounds: so many rounds have gone -/
def invB (y : Nt) (th : List Int) (s d : Int) (i : Nat) : Bool := decide (y.n ≤ y.xs.length) && (decide (4 ≤ y.xs.length) && (decide (y.xs.length ≤ 64) && (decide (0 ≤ y.l) && (decide (y.l ≤ i) && (decide (0 ≤ d) && (decide (s ≤ i) && (decide (y.s = s) && (decide (s = d + y.l + y.n) && (decide (th.length = 201) &&
  ((y.xs.take y.n).all byteB && (List.range 201).all fun b => decide ((((y.xs.take y.n).countP fun t => decide (t = txt b) : Nat) : Int) ≤ th.getD b 0) && decide (th.getD b 0 ≤ i)))))))))))
structure Af where
  y : Nt
  th : List Int
  s : Int
  d : Int
def swD (T : Tb) : RDeal Sw where
  ins := Sw.ins
  blks x := x.kp.blks
  pre x := okV T x.V && (decide (0 ≤ x.i) && (decide (x.i < T.w.length) && (decide (x.i < 200) && invB x.y x.th x.s x.d x.i.toNat)))
  alts := [⟨Af, .normal, fun x a => (invB a.y a.th a.s a.d (x.i.toNat + 1) && decide (a.y.xs.length = x.y.xs.length)) = true, fun x a => (⟨x.V, a.y, a.th, a.s, a.d⟩ : Kp).at x.i, fun x a => (⟨x.V, a.y, a.th, a.s, a.d⟩ : Kp).blks⟩]
def pA : List Bool := [false, true, false, false, true, false, false, true, false, true, true, true, true, true, true, true]
def TA (T : Tb) : Tolds := sumT 4 pA (toldR 173 (swD T) [1, 5, 6, 7, 8, 9, 10, 11] swO) noT
def pK : List Bool := [false, true, false, true, true, true, true, true, true, true]
def TK (T : Tb) : Tolds := sumT 4 pK (toldR 173 (kpD T) [1, 5, 6, 7, 8, 9, 10] kpO) noT

end Go.Proofs.Ytohdkgdaccoohaa
