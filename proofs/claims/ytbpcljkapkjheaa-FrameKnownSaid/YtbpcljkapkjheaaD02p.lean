/- frame: row, alike: told. -/
import Derived.Test.YtbpcljkapkjheaaD02o
namespace Go.Proofs.Ytbpcljkapkjheaa
open Ab

def tabS (L : List ByteArray) : Nat → Nat → Seg := fun _ _ => ⟨L.length, 1, [.str L]⟩
def okS (L : List ByteArray) : AVal → Bool
  | .nils => Nat.beq L.length 0
  | .slice (.ro 0 0 0 0) n none => decide (n = L.length)
  | _ => false
def cut5 (t : ByteArray) : ByteArray := t.extract (orNat none 0) (orNat (some (if 500 < (t.size : Int) then 500 else (t.size : Int))) t.size)
def rowS (L : List ByteArray) : ByteArray := (L.take 20).foldl (fun s t => s ++ frameT (cut5 t)) noTx
structure Rw where
  V : AVal
  s : ByteArray
def rwO (us : List AVal) (_ : List Blk) : Option Rw := match us with
  | [V, .str s, _] => some ⟨V, s⟩
  | _ => none
def Rw.at (x : Rw) (i : Int) : List (Nat × AVal) := [(0, x.V), (3, .str x.s), (4, .int .i64 i)]
def rwD (L : List ByteArray) : RDeal Rw where
  ins x := x.at 0
  blks _ := []
  pre x := okS L x.V && decide (x.s.size = 0)
  alts := [⟨Unit, .exit 0, fun _ _ => True, fun _ _ => [(3, .str (rowS L))], fun _ _ => []⟩]
def pW : List Bool := [false, true, false, true, true]
def TRw (L : List ByteArray) : Tolds := sumT 10 pW (toldR 36 (rwD L) [0, 3, 4] rwO) noT
def rowO (us : List AVal) (_ : List Blk) : Option AVal := match us with
  | [V] => some V
  | _ => none
def rowD (L : List ByteArray) : CDeal AVal := ⟨fun V => [V], fun _ => [], okS L, fun _ => .str (rowS L), fun _ => []⟩
def alkD : CDeal Nx := ⟨fun x => [.str x.s, .int .i64 x.a], fun _ => [], fun x => decide (x.s.size ≤ 1000000000000) && (decide (-1000000000000 ≤ x.a) && decide (x.a ≤ 1000000000000)), fun _ => .bool true, fun _ => []⟩
def S6 (L : List ByteArray) : Sums := sumF 11 (callG alkD nxI) (sumF 10 (callG (rowD L) rowO) S5)
end Go.Proofs.Ytbpcljkapkjheaa
