/- align: AlignCuts: the rows' list, the calls. -/
import Derived.Test.YtbdjcekekhgnkaaP24e
import Derived.Test.YtbdjcekekhgnkaaP24c
namespace Go.Proofs.Ytbdjcekekhgnkaa
open Ab

def S6 (T : Tc) : Sums := sumF 16 (callG (rowD T) rowO) S5

/-- the rows that are built, to be read -/
def rK (k : Nat) (ls : List Nat) (fs : List Bool) : Blk := .segs [⟨k, 1, [.subs 5 ls fs]⟩]
def rB (F : List (List Int)) : Blk := rK F.length (F.map List.length) (F.map fun _ => false)

def pLa : List Bool := [false, true, false, true, true, true, true, true, true, true]
def pLb : List Bool := [false, true, false, true, true, true, true, true, true, true, true]

end Go.Proofs.Ytbdjcekekhgnkaa
