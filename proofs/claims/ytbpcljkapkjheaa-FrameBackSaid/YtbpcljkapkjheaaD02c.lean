/- frame: FrameBack: its pieces, told. -/
import Derived.Test.YtbpcljkapkjheaaD02b
namespace Go.Proofs.Ytbpcljkapkjheaa
open Ab

structure B5 where
  q : Int
  s : ByteArray
  r : ByteArray
  f : Bool
  own : List ByteArray
  pl : List Int
def B5.x (x : B5) : B2 := ⟨x.s, x.r, x.f, x.own, x.pl, 0⟩
def B5.at (x : B5) : List (Nat × AVal) := [(1, .int .u16 x.q), (2, .str x.s), (7, .str x.r), (8, x.x.O), (9, x.x.P)]
def okB (x : B5) : Bool := decide (x.r = catT x.own) && (decide (x.pl = plc 0 x.own) && (decide (x.own.length ≤ 20) && ((x.own.all fun t => decide (t.size ≤ 500)) && (decide (x.f = !x.own.isEmpty) && (decide (0 ≤ x.q) && decide (x.q < 65536))))))
def b5O (us : List AVal) (Bs : List Blk) : Option B5 := match us, Bs with
  | [.int _ q, .str s, .str r, .nils, _], _ => some ⟨q, s, r, false, [], []⟩
  | [.int _ q, .str s, .str r, .slice _ _ _, _], [.segs [⟨_, _, [.str own]⟩], .segs [⟨_, _, [.int _ pl]⟩]] => some ⟨q, s, r, true, own, pl⟩
  | _, _ => none
def yesA (ξ : Type) : RAlt ξ := ⟨Unit, .ret, fun _ _ => True, fun _ _ => [(6, .bool true)], fun _ _ => []⟩
def b5D : RDeal B5 := ⟨B5.at, fun x => x.x.bs, okB, [⟨Unit, .ret, fun _ _ => True, fun _ _ => [(6, .bool true)], fun _ _ => []⟩]⟩
def b6O (us : List AVal) (_ : List Blk) : Option ByteArray := match us with
  | [.str s] => some s
  | _ => none
def b6D : RDeal ByteArray := ⟨fun s => [(2, .str s)], fun _ => [], fun _ => true, [⟨Unit, .ret, fun _ _ => True, fun _ _ => [(6, .bool true)], fun _ _ => []⟩]⟩
def pR1 : List Bool := [true, true, true, true, true, true]
def pR3 : List Bool := [true, true, true, true, true, true, true, true]
def pR5 : List Bool := [true, true, true, true, true, true, true, true, true, true, true, true, true]
def TB3 : Tolds := sumT 5 pB3 (toldR 193 b3D [2, 15, 21, 23, 24] b3O) noT
def TB2 : Tolds := sumT 5 pB2 (toldR 193 b2D [2, 7, 8, 9, 17, 18, 19] b2O) (sumT 5 pR5 (toldR 193 b6D [2] b6O) noT)
def TB1 : Tolds := sumT 5 pR3 (toldR 193 b5D [1, 2, 7, 8, 9] b5O) noT
def TB0 (L : List ByteArray) : Tolds := sumT 5 pB1 (toldR 193 (b1D L) [0, 1, 2, 7, 8, 9, 10] b1O) (sumT 5 pR1 (toldR 193 b5D [1, 2, 7, 8, 9] b5O) noT)
end Go.Proofs.Ytbpcljkapkjheaa
