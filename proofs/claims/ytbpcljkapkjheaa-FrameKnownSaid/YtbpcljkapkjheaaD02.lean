/- frame: Put, told. -/
import Derived.Test.YtbpcljkapkjheaaH02
import Derived.Test.YtbpcljkapkjheaaE05
namespace Go.Proofs.Ytbpcljkapkjheaa
open Ab

def frameT (t : ByteArray) : ByteArray := strOfNums [165, wr .u8 ((t.size : Int) / 65536), wr .u8 ((t.size : Int) / 256), wr .u8 (t.size : Int)] ++ t ++ strOfNums [90]
def noTx : ByteArray := ⟨⟨[]⟩⟩
def endT : ByteArray := ⟨⟨[90]⟩⟩
def cutT (t : ByteArray) : ByteArray := t.extract (orNat none 0) (orNat (some (if 1000 < (t.size : Int) then 1000 else (t.size : Int))) t.size)
def longB (t : ByteArray) : Bool := decide (1048576 < (t.size : Int))
def txO (us : List AVal) (_ : List Blk) : Option ByteArray := match us with
  | [.str t] => some t
  | _ => none
def putOut (t : ByteArray) : AVal := .tup [.str (if longB t = true then noTx else frameT t), .int .i64 (if longB t = true then 4 else 0)]
def smallT (t : ByteArray) : Bool := decide (t.size ≤ 2000000)
def putD : CDeal ByteArray := ⟨fun t => [.str t], fun _ => [], smallT, putOut, fun _ => []⟩
def S1 : Sums := sumF 9 (callG trueD fun _ _ => some ()) (sumF 8 (callG putD txO) (sumF 7 (callG putD txO) noS))

end Go.Proofs.Ytbpcljkapkjheaa
