/- frame: FrameKnown: its pieces, told. -/
import Derived.Test.YtbpcljkapkjheaaD02o
import Derived.Test.YtbpcljkapkjheaaE05
namespace Go.Proofs.Ytbpcljkapkjheaa
open Ab

def pL : List Bool := [false, true, true]
def pK1 : List Bool := [true, true, true]
def pK2 : List Bool := [true, true, true, true, true, true, true]
def isLong (t : ByteArray) : Prop := t.size = 1048576
def unitO (_ : List AVal) (_ : List Blk) : Option Unit := some ()
def longD : RDeal Unit := ⟨fun _ => [], fun _ => [], fun _ => true, [⟨ByteArray, .normal, fun _ t => isLong t, fun _ t => [(1, .str t)], fun _ _ => []⟩]⟩
def bigT (t : ByteArray) : Bool := decide (t.size = 1048576)
def k1D : RDeal ByteArray := ⟨fun t => [(1, .str t)], fun _ => [], bigT, [⟨Unit, .ret, fun _ _ => True, fun _ _ => [(0, .bool true)], fun _ _ => []⟩]⟩
def k1O (us : List AVal) (_ : List Blk) : Option ByteArray := match us with
  | [.str t] => some t
  | _ => none
def k2D : RDeal Unit := ⟨fun _ => [], fun _ => [], fun _ => true, [⟨Unit, .ret, fun _ _ => True, fun _ _ => [(0, .bool true)], fun _ _ => []⟩]⟩
def TK2 : Tolds := sumT 6 pK2 (toldR 146 k2D [] unitO) noT
def TK1 : Tolds := sumT 6 pL (toldR 146 longD [] unitO) (sumT 6 pK1 (toldR 146 k1D [1] k1O) noT)
def xT : ByteArray := ⟨⟨[120]⟩⟩
def hT : ByteArray := ⟨⟨[165, 16, 0, 0]⟩⟩
theorem long_eval {E : Nat → Nat → Seg} : evalS 0 [] 2 (W E noS noL 6 pL false (codeOf 6 pL) (mkT 146 [])) ⟨[], 0, [], []⟩ = some (.normal, mkT 146 [(1, .str (strOfNums (List.take (Int.toNat 1048576) (List.drop 0 (List.replicate (Int.toNat 1048576) (0 : Int))))))], []) := by kernel_rfl
end Go.Proofs.Ytbpcljkapkjheaa
