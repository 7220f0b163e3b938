/-
  No cell of these rows narrows 'for every input' (looked for: loops, veiled, ifaces, maps, wideKeys, modest, calm, conditions, laid).
  DERIVED. THE GIVEN ROWS OF THIS SEAT. 5 by the template 'for every input the law returns true; each argument reads behind the call as it read before'; 0 by the template 'total and deterministic' (their statements: YtbfebjmmpiffpaaTotals.lean).
  GIVEN WITH THE SEED: the statements are not yours to turn. If you find one false, say at which input.
  Laid BY PROGRAM, IN A SANDBOX (cutbox-rows.mjs): the forced cells as the released guide's own fill.sh prints them over the translation cfb2969f885a4ec8… (all of the seat's roots in one cut). By AI agents, Wed Nov 11 2026. No macro, syntax, notation, axiom, sorry.
-/
import Derived.Test.YtbfebjmmpiffpaaChecked
import GoSem.Claim
import GoSem.ClaimJoined
import GoSem.ClaimMapViews
import Derived.JoinedTies
import Derived.KernelRfl
namespace Go.Proofs.Ytbfebjmmpiffpaa
/- THE CELL 'sum', in the pinned program and in every row, IS THE sha256 OF THE DUMP (.gsa) THAT YtbfebjmmpiffpaaProg.lean LOADS. Nothing in Lean hashes anything: it is a label: what it is worth is what the hold of that sum in a sandbox is worth. -/
noncomputable def Try.pinned : Pinned := { name := "ytbfebjmmpiffpaa", sum := "cfb2969f885a4ec8c26224777b82a2fa6e76b86e41308ae04b7f63598acc4f1a", checked := Try.checked }
namespace Rows
def none {H : Type} : Left H := { results := [], args := [] }

/-- 'anabranchlaw04.OperChecks': WHATEVER THE INPUT: true; the input reads as it did. -/
def operChecksSpec : ChangeSpec := { name := "operChecks", fn := fun _ => fun
  | [d1, d2] => { results := [.lit (.bool true)], args := [d1, d2] }
  | _ => none }
def operChecksRow : OpenClaim := { program := "ytbfebjmmpiffpaa", sum := "cfb2969f885a4ec8c26224777b82a2fa6e76b86e41308ae04b7f63598acc4f1a", func := "anabranch/anabranchlaw04.OperChecks", spec := "operChecks", unfollowed := true, recurses := true, apart := false }
def OperChecksSaid : Prop := operChecksRow.holds Try.pinned (OpenSpec.ofChange operChecksSpec)

/-- ITS FALSE NEIGHBOUR: 'it returns false'. Refute it at one input. -/
def operChecksWrong : ChangeSpec := { name := "operChecks", fn := fun _ => fun
  | [d1, d2] => { results := [.lit (.bool false)], args := [d1, d2] }
  | _ => none }
def OperChecksWrongFalsely : Prop := operChecksRow.holds Try.pinned (OpenSpec.ofChange operChecksWrong)

/-- 'anabranchlaw04.OperApplies': WHATEVER THE INPUT: true; the input reads as it did. -/
def operAppliesSpec : ChangeSpec := { name := "operApplies", fn := fun _ => fun
  | [d1, d2, d3] => { results := [.lit (.bool true)], args := [d1, d2, d3] }
  | _ => none }
def operAppliesRow : OpenClaim := { program := "ytbfebjmmpiffpaa", sum := "cfb2969f885a4ec8c26224777b82a2fa6e76b86e41308ae04b7f63598acc4f1a", func := "anabranch/anabranchlaw04.OperApplies", spec := "operApplies", unfollowed := true, recurses := true, apart := false }
def OperAppliesSaid : Prop := operAppliesRow.holds Try.pinned (OpenSpec.ofChange operAppliesSpec)

/-- ITS FALSE NEIGHBOUR: 'it returns false'. Refute it at one input. -/
def operAppliesWrong : ChangeSpec := { name := "operApplies", fn := fun _ => fun
  | [d1, d2, d3] => { results := [.lit (.bool false)], args := [d1, d2, d3] }
  | _ => none }
def OperAppliesWrongFalsely : Prop := operAppliesRow.holds Try.pinned (OpenSpec.ofChange operAppliesWrong)

/-- 'anabranchlaw04.OperParts': WHATEVER THE INPUT: true; the input reads as it did. -/
def operPartsSpec : ChangeSpec := { name := "operParts", fn := fun _ => fun
  | [d1, d2, d3] => { results := [.lit (.bool true)], args := [d1, d2, d3] }
  | _ => none }
def operPartsRow : OpenClaim := { program := "ytbfebjmmpiffpaa", sum := "cfb2969f885a4ec8c26224777b82a2fa6e76b86e41308ae04b7f63598acc4f1a", func := "anabranch/anabranchlaw04.OperParts", spec := "operParts", unfollowed := true, recurses := true, apart := false }
def OperPartsSaid : Prop := operPartsRow.holds Try.pinned (OpenSpec.ofChange operPartsSpec)

/-- ITS FALSE NEIGHBOUR: 'it returns false'. Refute it at one input. -/
def operPartsWrong : ChangeSpec := { name := "operParts", fn := fun _ => fun
  | [d1, d2, d3] => { results := [.lit (.bool false)], args := [d1, d2, d3] }
  | _ => none }
def OperPartsWrongFalsely : Prop := operPartsRow.holds Try.pinned (OpenSpec.ofChange operPartsWrong)

/-- 'anabranchlaw04.OperSorts': WHATEVER THE INPUT: true; the input reads as it did. -/
def operSortsSpec : ChangeSpec := { name := "operSorts", fn := fun _ => fun
  | [d1, d2, d3] => { results := [.lit (.bool true)], args := [d1, d2, d3] }
  | _ => none }
def operSortsRow : OpenClaim := { program := "ytbfebjmmpiffpaa", sum := "cfb2969f885a4ec8c26224777b82a2fa6e76b86e41308ae04b7f63598acc4f1a", func := "anabranch/anabranchlaw04.OperSorts", spec := "operSorts", unfollowed := true, recurses := true, apart := false }
def OperSortsSaid : Prop := operSortsRow.holds Try.pinned (OpenSpec.ofChange operSortsSpec)

/-- ITS FALSE NEIGHBOUR: 'it returns false'. Refute it at one input. -/
def operSortsWrong : ChangeSpec := { name := "operSorts", fn := fun _ => fun
  | [d1, d2, d3] => { results := [.lit (.bool false)], args := [d1, d2, d3] }
  | _ => none }
def OperSortsWrongFalsely : Prop := operSortsRow.holds Try.pinned (OpenSpec.ofChange operSortsWrong)

/-- 'anabranchlaw04.OperKnown': WHATEVER THE INPUT: true; the input reads as it did. -/
def operKnownSpec : ChangeSpec := { name := "operKnown", fn := fun _ => fun
  | [] => { results := [.lit (.bool true)], args := [] }
  | _ => none }
def operKnownRow : OpenClaim := { program := "ytbfebjmmpiffpaa", sum := "cfb2969f885a4ec8c26224777b82a2fa6e76b86e41308ae04b7f63598acc4f1a", func := "anabranch/anabranchlaw04.OperKnown", spec := "operKnown", unfollowed := true, recurses := true, apart := false }
def OperKnownSaid : Prop := operKnownRow.holds Try.pinned (OpenSpec.ofChange operKnownSpec)

/-- ITS FALSE NEIGHBOUR: 'it returns false'. Refute it at one input. -/
def operKnownWrong : ChangeSpec := { name := "operKnown", fn := fun _ => fun
  | [] => { results := [.lit (.bool false)], args := [] }
  | _ => none }
def OperKnownWrongFalsely : Prop := operKnownRow.holds Try.pinned (OpenSpec.ofChange operKnownWrong)

/- THE SECOND FORM. 'bulk': how many values and letters a reading holds, each counted each time it is reached (what is shared counts as often as it is met; a slice's spare places count too). A statement '..UptoSaid' is the law's where the arguments, and the package variables that the reading takes, are together of bulk at most 1048576: NARROWER than '..Said'. Prove '..Said' where nothing that the law and all that it calls make is longer than what came in: it says more and counts as full. Else prove '..UptoSaid'. A law counts once. -/
mutual
def uptoBulk {H : Type} : DataW H → Nat
  | .lit (.string bytes) => bytes.length + 1
  | .lit _ => 1
  | .nil => 1
  | .ptr d => uptoBulk d + 1
  | .slice elems spare => uptoBulkAll elems + uptoBulkAll spare + 1
  | .agg parts => uptoBulkAll parts + 1
  | .iface _ d => uptoBulk d + 1
  | .map entries => uptoBulkEntries entries + 1
  | .held _ => 1
def uptoBulkAll {H : Type} : List (DataW H) → Nat
  | [] => 0
  | d :: r => uptoBulk d + uptoBulkAll r
def uptoBulkEntries {H : Type} : List (Lit × DataW H) → Nat
  | [] => 0
  | x :: r => uptoBulkEntry x + uptoBulkEntries r
def uptoBulkEntry {H : Type} : Lit × DataW H → Nat
  | (.string bytes, d) => bytes.length + uptoBulk d + 1
  | (_, d) => uptoBulk d + 1
 end
def uptoSmall : (H : Type) → List (DataW H) → Bool := fun _ ds => decide (uptoBulkAll ds ≤ 1048576)
def OpenSpec.upto (s : _root_.Go.ChangeSpec) : _root_.Go.OpenSpec := { _root_.Go.OpenSpec.ofChange s with cond := some uptoSmall }

/-- 'anabranchlaw04.OperChecks', WHERE WHAT IT READS IS OF BULK AT MOST 1048576: true; the input reads as it did. -/
def operChecksUptoRow : OpenClaim := { program := "ytbfebjmmpiffpaa", sum := "cfb2969f885a4ec8c26224777b82a2fa6e76b86e41308ae04b7f63598acc4f1a", func := "anabranch/anabranchlaw04.OperChecks", spec := "operChecks", unfollowed := true, recurses := true, apart := false, narrowed := true }
def OperChecksUptoSaid : Prop := operChecksUptoRow.holds Try.pinned (OpenSpec.upto operChecksSpec)

/-- 'anabranchlaw04.OperApplies', WHERE WHAT IT READS IS OF BULK AT MOST 1048576: true; the input reads as it did. -/
def operAppliesUptoRow : OpenClaim := { program := "ytbfebjmmpiffpaa", sum := "cfb2969f885a4ec8c26224777b82a2fa6e76b86e41308ae04b7f63598acc4f1a", func := "anabranch/anabranchlaw04.OperApplies", spec := "operApplies", unfollowed := true, recurses := true, apart := false, narrowed := true }
def OperAppliesUptoSaid : Prop := operAppliesUptoRow.holds Try.pinned (OpenSpec.upto operAppliesSpec)

/-- 'anabranchlaw04.OperParts', WHERE WHAT IT READS IS OF BULK AT MOST 1048576: true; the input reads as it did. -/
def operPartsUptoRow : OpenClaim := { program := "ytbfebjmmpiffpaa", sum := "cfb2969f885a4ec8c26224777b82a2fa6e76b86e41308ae04b7f63598acc4f1a", func := "anabranch/anabranchlaw04.OperParts", spec := "operParts", unfollowed := true, recurses := true, apart := false, narrowed := true }
def OperPartsUptoSaid : Prop := operPartsUptoRow.holds Try.pinned (OpenSpec.upto operPartsSpec)

/-- 'anabranchlaw04.OperSorts', WHERE WHAT IT READS IS OF BULK AT MOST 1048576: true; the input reads as it did. -/
def operSortsUptoRow : OpenClaim := { program := "ytbfebjmmpiffpaa", sum := "cfb2969f885a4ec8c26224777b82a2fa6e76b86e41308ae04b7f63598acc4f1a", func := "anabranch/anabranchlaw04.OperSorts", spec := "operSorts", unfollowed := true, recurses := true, apart := false, narrowed := true }
def OperSortsUptoSaid : Prop := operSortsUptoRow.holds Try.pinned (OpenSpec.upto operSortsSpec)

/-- 'anabranchlaw04.OperKnown', WHERE WHAT IT READS IS OF BULK AT MOST 1048576: true; the input reads as it did. -/
def operKnownUptoRow : OpenClaim := { program := "ytbfebjmmpiffpaa", sum := "cfb2969f885a4ec8c26224777b82a2fa6e76b86e41308ae04b7f63598acc4f1a", func := "anabranch/anabranchlaw04.OperKnown", spec := "operKnown", unfollowed := true, recurses := true, apart := false, narrowed := true }
def OperKnownUptoSaid : Prop := operKnownUptoRow.holds Try.pinned (OpenSpec.upto operKnownSpec)

end Rows
end Go.Proofs.Ytbfebjmmpiffpaa
