/-
  No cell of these rows narrows 'for every input' (looked for: loops, veiled, ifaces, maps, wideKeys, modest, calm, conditions, laid).
  DERIVED. THE GIVEN ROWS OF THIS SEAT. 5 by the template 'for every input the law returns true; each argument reads behind the call as it read before'; 0 by the template 'total and deterministic' (their statements: YtebpekgijakonaaTotals.lean).
  GIVEN WITH THE SEED: the statements are not yours to turn. If you find one false, say at which input.
  Laid BY PROGRAM, IN A SANDBOX (cutbox-rows.mjs): the forced cells as the released guide's own fill.sh prints them over the translation ff9142fa8bced22b… (all of the seat's roots in one cut). By AI agents, Wed Nov 11 2026. No macro, syntax, notation, axiom, sorry.
-/
import Derived.Test.YtebpekgijakonaaChecked
import GoSem.Claim
import GoSem.ClaimJoined
import GoSem.ClaimMapViews
import Derived.JoinedTies
import Derived.KernelRfl
namespace Go.Proofs.Ytebpekgijakonaa
/- THE CELL 'sum', in the pinned program and in every row, IS THE sha256 OF THE DUMP (.gsa) THAT YtebpekgijakonaaProg.lean LOADS. Nothing in Lean hashes anything: it is a label: what it is worth is what the hold of that sum in a sandbox is worth. -/
noncomputable def Try.pinned : Pinned := { name := "ytebpekgijakonaa", sum := "ff9142fa8bced22bedbd715639a96027b3dc4f40383b3777b2acb819d1a51ffe", checked := Try.checked }
namespace Rows
def none {H : Type} : Left H := { results := [], args := [] }

/-- 'anabranchlaw05.AccTells': WHATEVER THE INPUT: true; the input reads as it did. -/
def accTellsSpec : ChangeSpec := { name := "accTells", fn := fun _ => fun
  | [d1, d2, d3] => { results := [.lit (.bool true)], args := [d1, d2, d3] }
  | _ => none }
def accTellsRow : OpenClaim := { program := "ytebpekgijakonaa", sum := "ff9142fa8bced22bedbd715639a96027b3dc4f40383b3777b2acb819d1a51ffe", func := "anabranch/anabranchlaw05.AccTells", spec := "accTells", inPlace := ["math/bits.Add64"], unfollowed := true, recurses := true, apart := false }
def AccTellsSaid : Prop := accTellsRow.holds Try.pinned (OpenSpec.ofChange accTellsSpec)

/-- ITS FALSE NEIGHBOUR: 'it returns false'. Refute it at one input. -/
def accTellsWrong : ChangeSpec := { name := "accTells", fn := fun _ => fun
  | [d1, d2, d3] => { results := [.lit (.bool false)], args := [d1, d2, d3] }
  | _ => none }
def AccTellsWrongFalsely : Prop := accTellsRow.holds Try.pinned (OpenSpec.ofChange accTellsWrong)

/-- 'anabranchlaw05.AccLists': WHATEVER THE INPUT: true; the input reads as it did. -/
def accListsSpec : ChangeSpec := { name := "accLists", fn := fun _ => fun
  | [d] => { results := [.lit (.bool true)], args := [d] }
  | _ => none }
def accListsRow : OpenClaim := { program := "ytebpekgijakonaa", sum := "ff9142fa8bced22bedbd715639a96027b3dc4f40383b3777b2acb819d1a51ffe", func := "anabranch/anabranchlaw05.AccLists", spec := "accLists", inPlace := ["math/bits.Add64"], unfollowed := true, recurses := true, apart := false }
def AccListsSaid : Prop := accListsRow.holds Try.pinned (OpenSpec.ofChange accListsSpec)

/-- ITS FALSE NEIGHBOUR: 'it returns false'. Refute it at one input. -/
def accListsWrong : ChangeSpec := { name := "accLists", fn := fun _ => fun
  | [d] => { results := [.lit (.bool false)], args := [d] }
  | _ => none }
def AccListsWrongFalsely : Prop := accListsRow.holds Try.pinned (OpenSpec.ofChange accListsWrong)

/-- 'anabranchlaw05.AccOrder': WHATEVER THE INPUT: true; the input reads as it did. -/
def accOrderSpec : ChangeSpec := { name := "accOrder", fn := fun _ => fun
  | [d1, d2] => { results := [.lit (.bool true)], args := [d1, d2] }
  | _ => none }
def accOrderRow : OpenClaim := { program := "ytebpekgijakonaa", sum := "ff9142fa8bced22bedbd715639a96027b3dc4f40383b3777b2acb819d1a51ffe", func := "anabranch/anabranchlaw05.AccOrder", spec := "accOrder", inPlace := ["math/bits.Add64"], unfollowed := true, recurses := true, apart := false }
def AccOrderSaid : Prop := accOrderRow.holds Try.pinned (OpenSpec.ofChange accOrderSpec)

/-- ITS FALSE NEIGHBOUR: 'it returns false'. Refute it at one input. -/
def accOrderWrong : ChangeSpec := { name := "accOrder", fn := fun _ => fun
  | [d1, d2] => { results := [.lit (.bool false)], args := [d1, d2] }
  | _ => none }
def AccOrderWrongFalsely : Prop := accOrderRow.holds Try.pinned (OpenSpec.ofChange accOrderWrong)

/-- 'anabranchlaw05.AccEnds': WHATEVER THE INPUT: true; the input reads as it did. -/
def accEndsSpec : ChangeSpec := { name := "accEnds", fn := fun _ => fun
  | [d] => { results := [.lit (.bool true)], args := [d] }
  | _ => none }
def accEndsRow : OpenClaim := { program := "ytebpekgijakonaa", sum := "ff9142fa8bced22bedbd715639a96027b3dc4f40383b3777b2acb819d1a51ffe", func := "anabranch/anabranchlaw05.AccEnds", spec := "accEnds", inPlace := ["math/bits.Add64"], unfollowed := true, recurses := true, apart := false }
def AccEndsSaid : Prop := accEndsRow.holds Try.pinned (OpenSpec.ofChange accEndsSpec)

/-- ITS FALSE NEIGHBOUR: 'it returns false'. Refute it at one input. -/
def accEndsWrong : ChangeSpec := { name := "accEnds", fn := fun _ => fun
  | [d] => { results := [.lit (.bool false)], args := [d] }
  | _ => none }
def AccEndsWrongFalsely : Prop := accEndsRow.holds Try.pinned (OpenSpec.ofChange accEndsWrong)

/-- 'anabranchlaw05.AccKnown': WHATEVER THE INPUT: true; the input reads as it did. -/
def accKnownSpec : ChangeSpec := { name := "accKnown", fn := fun _ => fun
  | [] => { results := [.lit (.bool true)], args := [] }
  | _ => none }
def accKnownRow : OpenClaim := { program := "ytebpekgijakonaa", sum := "ff9142fa8bced22bedbd715639a96027b3dc4f40383b3777b2acb819d1a51ffe", func := "anabranch/anabranchlaw05.AccKnown", spec := "accKnown", inPlace := ["math/bits.Add64"], unfollowed := true, recurses := true, apart := false }
def AccKnownSaid : Prop := accKnownRow.holds Try.pinned (OpenSpec.ofChange accKnownSpec)

/-- ITS FALSE NEIGHBOUR: 'it returns false'. Refute it at one input. -/
def accKnownWrong : ChangeSpec := { name := "accKnown", fn := fun _ => fun
  | [] => { results := [.lit (.bool false)], args := [] }
  | _ => none }
def AccKnownWrongFalsely : Prop := accKnownRow.holds Try.pinned (OpenSpec.ofChange accKnownWrong)

/- THE SECOND FORM. 'bulk': how many values and letters a reading holds, each counted each time it is reached (what is shared counts as often as it is met; a slice's spare places count too). A statement '..UptoSaid' is the law's where the arguments, and the package variables that the reading takes, are together of bulk at most 1048576: NARROWER than '..Said'. Prove '..Said' where nothing that the law and all that it calls make is longer than what came in: it says more and counts as full. Else prove '..UptoSaid'. A law counts once. -/
mutual
def uptoBulk {H : Type} : DataW H → Nat
  | .lit (.string bytes) => bytes.length + 1
  | .lit _ => 1
  | .nil => 1
  | .ptr d => uptoBulk d + 1
  | .slice elems spare => uptoBulkAll elems + uptoBulkAll spare + 1
  | .agg parts => uptoBulkAll parts + 1
  | .iface _ d => uptoBulk d + 1
  | .map entries => uptoBulkEntries entries + 1
  | .held _ => 1
def uptoBulkAll {H : Type} : List (DataW H) → Nat
  | [] => 0
  | d :: r => uptoBulk d + uptoBulkAll r
def uptoBulkEntries {H : Type} : List (Lit × DataW H) → Nat
  | [] => 0
  | x :: r => uptoBulkEntry x + uptoBulkEntries r
def uptoBulkEntry {H : Type} : Lit × DataW H → Nat
  | (.string bytes, d) => bytes.length + uptoBulk d + 1
  | (_, d) => uptoBulk d + 1
 end
def uptoSmall : (H : Type) → List (DataW H) → Bool := fun _ ds => decide (uptoBulkAll ds ≤ 1048576)
def OpenSpec.upto (s : _root_.Go.ChangeSpec) : _root_.Go.OpenSpec := { _root_.Go.OpenSpec.ofChange s with cond := some uptoSmall }

/-- 'anabranchlaw05.AccTells', WHERE WHAT IT READS IS OF BULK AT MOST 1048576: true; the input reads as it did. -/
def accTellsUptoRow : OpenClaim := { program := "ytebpekgijakonaa", sum := "ff9142fa8bced22bedbd715639a96027b3dc4f40383b3777b2acb819d1a51ffe", func := "anabranch/anabranchlaw05.AccTells", spec := "accTells", inPlace := ["math/bits.Add64"], unfollowed := true, recurses := true, apart := false, narrowed := true }
def AccTellsUptoSaid : Prop := accTellsUptoRow.holds Try.pinned (OpenSpec.upto accTellsSpec)

/-- 'anabranchlaw05.AccLists', WHERE WHAT IT READS IS OF BULK AT MOST 1048576: true; the input reads as it did. -/
def accListsUptoRow : OpenClaim := { program := "ytebpekgijakonaa", sum := "ff9142fa8bced22bedbd715639a96027b3dc4f40383b3777b2acb819d1a51ffe", func := "anabranch/anabranchlaw05.AccLists", spec := "accLists", inPlace := ["math/bits.Add64"], unfollowed := true, recurses := true, apart := false, narrowed := true }
def AccListsUptoSaid : Prop := accListsUptoRow.holds Try.pinned (OpenSpec.upto accListsSpec)

/-- 'anabranchlaw05.AccOrder', WHERE WHAT IT READS IS OF BULK AT MOST 1048576: true; the input reads as it did. -/
def accOrderUptoRow : OpenClaim := { program := "ytebpekgijakonaa", sum := "ff9142fa8bced22bedbd715639a96027b3dc4f40383b3777b2acb819d1a51ffe", func := "anabranch/anabranchlaw05.AccOrder", spec := "accOrder", inPlace := ["math/bits.Add64"], unfollowed := true, recurses := true, apart := false, narrowed := true }
def AccOrderUptoSaid : Prop := accOrderUptoRow.holds Try.pinned (OpenSpec.upto accOrderSpec)

/-- 'anabranchlaw05.AccEnds', WHERE WHAT IT READS IS OF BULK AT MOST 1048576: true; the input reads as it did. -/
def accEndsUptoRow : OpenClaim := { program := "ytebpekgijakonaa", sum := "ff9142fa8bced22bedbd715639a96027b3dc4f40383b3777b2acb819d1a51ffe", func := "anabranch/anabranchlaw05.AccEnds", spec := "accEnds", inPlace := ["math/bits.Add64"], unfollowed := true, recurses := true, apart := false, narrowed := true }
def AccEndsUptoSaid : Prop := accEndsUptoRow.holds Try.pinned (OpenSpec.upto accEndsSpec)

/-- 'anabranchlaw05.AccKnown', WHERE WHAT IT READS IS OF BULK AT MOST 1048576: true; the input reads as it did. -/
def accKnownUptoRow : OpenClaim := { program := "ytebpekgijakonaa", sum := "ff9142fa8bced22bedbd715639a96027b3dc4f40383b3777b2acb819d1a51ffe", func := "anabranch/anabranchlaw05.AccKnown", spec := "accKnown", inPlace := ["math/bits.Add64"], unfollowed := true, recurses := true, apart := false, narrowed := true }
def AccKnownUptoSaid : Prop := accKnownUptoRow.holds Try.pinned (OpenSpec.upto accKnownSpec)

end Rows
end Go.Proofs.Ytebpekgijakonaa
