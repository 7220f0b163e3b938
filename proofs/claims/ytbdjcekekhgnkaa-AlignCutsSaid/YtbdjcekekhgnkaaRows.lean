/-
  No cell of these rows narrows 'for every input' (looked for: loops, veiled, ifaces, maps, wideKeys, modest, calm, conditions, laid).
  DERIVED. THE GIVEN ROWS OF THIS SEAT. 3 by the template 'for every input the law returns true; each argument reads behind the call as it read before'; 0 by the template 'total and deterministic' (their statements: YtbdjcekekhgnkaaTotals.lean).
  GIVEN WITH THE SEED: the statements are not yours to turn. If you find one false, say at which input.
  Laid BY PROGRAM, IN A SANDBOX (cutbox-rows.mjs): the forced cells as the released guide's own fill.sh prints them over the translation 7c27ef3eefd8b889… (all of the seat's roots in one cut). By AI agents, Wed Nov 11 2026. No macro, syntax, notation, axiom, sorry.
-/
import Derived.Test.YtbdjcekekhgnkaaChecked
import GoSem.Claim
import GoSem.ClaimJoined
import GoSem.ClaimMapViews
import Derived.JoinedTies
import Derived.KernelRfl
namespace Go.Proofs.Ytbdjcekekhgnkaa
/- THE CELL 'sum', in the pinned program and in every row, IS THE sha256 OF THE DUMP (.gsa) THAT YtbdjcekekhgnkaaProg.lean LOADS. Nothing in Lean hashes anything: it is a label: what it is worth is what the hold of that sum in a sandbox is worth. -/
noncomputable def Try.pinned : Pinned := { name := "ytbdjcekekhgnkaa", sum := "7c27ef3eefd8b88972f09edd91ad6272a6dc5fee44d9328ac140556ea61f6616", checked := Try.checked }
namespace Rows
def none {H : Type} : Left H := { results := [], args := [] }

/-- 'anabranchlaw24.AlignPlays': WHATEVER THE INPUT: true; the input reads as it did. -/
def alignPlaysSpec : ChangeSpec := { name := "alignPlays", fn := fun _ => fun
  | [d1, d2, d3] => { results := [.lit (.bool true)], args := [d1, d2, d3] }
  | _ => none }
def alignPlaysRow : OpenClaim := { program := "ytbdjcekekhgnkaa", sum := "7c27ef3eefd8b88972f09edd91ad6272a6dc5fee44d9328ac140556ea61f6616", func := "anabranch/anabranchlaw24.AlignPlays", spec := "alignPlays", unfollowed := true, recurses := true, apart := false }
def AlignPlaysSaid : Prop := alignPlaysRow.holds Try.pinned (OpenSpec.ofChange alignPlaysSpec)

/-- ITS FALSE NEIGHBOUR: 'it returns false'. Refute it at one input. -/
def alignPlaysWrong : ChangeSpec := { name := "alignPlays", fn := fun _ => fun
  | [d1, d2, d3] => { results := [.lit (.bool false)], args := [d1, d2, d3] }
  | _ => none }
def AlignPlaysWrongFalsely : Prop := alignPlaysRow.holds Try.pinned (OpenSpec.ofChange alignPlaysWrong)

/-- 'anabranchlaw24.AlignCuts': WHATEVER THE INPUT: true; the input reads as it did. -/
def alignCutsSpec : ChangeSpec := { name := "alignCuts", fn := fun _ => fun
  | [d1, d2, d3] => { results := [.lit (.bool true)], args := [d1, d2, d3] }
  | _ => none }
def alignCutsRow : OpenClaim := { program := "ytbdjcekekhgnkaa", sum := "7c27ef3eefd8b88972f09edd91ad6272a6dc5fee44d9328ac140556ea61f6616", func := "anabranch/anabranchlaw24.AlignCuts", spec := "alignCuts", unfollowed := true, recurses := true, apart := false }
def AlignCutsSaid : Prop := alignCutsRow.holds Try.pinned (OpenSpec.ofChange alignCutsSpec)

/-- ITS FALSE NEIGHBOUR: 'it returns false'. Refute it at one input. -/
def alignCutsWrong : ChangeSpec := { name := "alignCuts", fn := fun _ => fun
  | [d1, d2, d3] => { results := [.lit (.bool false)], args := [d1, d2, d3] }
  | _ => none }
def AlignCutsWrongFalsely : Prop := alignCutsRow.holds Try.pinned (OpenSpec.ofChange alignCutsWrong)

/-- 'anabranchlaw24.AlignKnown': WHATEVER THE INPUT: true; the input reads as it did. -/
def alignKnownSpec : ChangeSpec := { name := "alignKnown", fn := fun _ => fun
  | [] => { results := [.lit (.bool true)], args := [] }
  | _ => none }
def alignKnownRow : OpenClaim := { program := "ytbdjcekekhgnkaa", sum := "7c27ef3eefd8b88972f09edd91ad6272a6dc5fee44d9328ac140556ea61f6616", func := "anabranch/anabranchlaw24.AlignKnown", spec := "alignKnown", unfollowed := true, recurses := true, apart := false }
def AlignKnownSaid : Prop := alignKnownRow.holds Try.pinned (OpenSpec.ofChange alignKnownSpec)

/-- ITS FALSE NEIGHBOUR: 'it returns false'. Refute it at one input. -/
def alignKnownWrong : ChangeSpec := { name := "alignKnown", fn := fun _ => fun
  | [] => { results := [.lit (.bool false)], args := [] }
  | _ => none }
def AlignKnownWrongFalsely : Prop := alignKnownRow.holds Try.pinned (OpenSpec.ofChange alignKnownWrong)

/- THE SECOND FORM. 'bulk': how many values and letters a reading holds, each counted each time it is reached (what is shared counts as often as it is met; a slice's spare places count too). A statement '..UptoSaid' is the law's where the arguments, and the package variables that the reading takes, are together of bulk at most 1048576: NARROWER than '..Said'. Prove '..Said' where nothing that the law and all that it calls make is longer than what came in: it says more and counts as full. Else prove '..UptoSaid'. A law counts once. -/
mutual
def uptoBulk {H : Type} : DataW H → Nat
  | .lit (.string bytes) => bytes.length + 1
  | .lit _ => 1
  | .nil => 1
  | .ptr d => uptoBulk d + 1
  | .slice elems spare => uptoBulkAll elems + uptoBulkAll spare + 1
  | .agg parts => uptoBulkAll parts + 1
  | .iface _ d => uptoBulk d + 1
  | .map entries => uptoBulkEntries entries + 1
  | .held _ => 1
def uptoBulkAll {H : Type} : List (DataW H) → Nat
  | [] => 0
  | d :: r => uptoBulk d + uptoBulkAll r
def uptoBulkEntries {H : Type} : List (Lit × DataW H) → Nat
  | [] => 0
  | x :: r => uptoBulkEntry x + uptoBulkEntries r
def uptoBulkEntry {H : Type} : Lit × DataW H → Nat
  | (.string bytes, d) => bytes.length + uptoBulk d + 1
  | (_, d) => uptoBulk d + 1
 end
def uptoSmall : (H : Type) → List (DataW H) → Bool := fun _ ds => decide (uptoBulkAll ds ≤ 1048576)
def OpenSpec.upto (s : _root_.Go.ChangeSpec) : _root_.Go.OpenSpec := { _root_.Go.OpenSpec.ofChange s with cond := some uptoSmall }

/-- 'anabranchlaw24.AlignPlays', WHERE WHAT IT READS IS OF BULK AT MOST 1048576: true; the input reads as it did. -/
def alignPlaysUptoRow : OpenClaim := { program := "ytbdjcekekhgnkaa", sum := "7c27ef3eefd8b88972f09edd91ad6272a6dc5fee44d9328ac140556ea61f6616", func := "anabranch/anabranchlaw24.AlignPlays", spec := "alignPlays", unfollowed := true, recurses := true, apart := false, narrowed := true }
def AlignPlaysUptoSaid : Prop := alignPlaysUptoRow.holds Try.pinned (OpenSpec.upto alignPlaysSpec)

/-- 'anabranchlaw24.AlignCuts', WHERE WHAT IT READS IS OF BULK AT MOST 1048576: true; the input reads as it did. -/
def alignCutsUptoRow : OpenClaim := { program := "ytbdjcekekhgnkaa", sum := "7c27ef3eefd8b88972f09edd91ad6272a6dc5fee44d9328ac140556ea61f6616", func := "anabranch/anabranchlaw24.AlignCuts", spec := "alignCuts", unfollowed := true, recurses := true, apart := false, narrowed := true }
def AlignCutsUptoSaid : Prop := alignCutsUptoRow.holds Try.pinned (OpenSpec.upto alignCutsSpec)

/-- 'anabranchlaw24.AlignKnown', WHERE WHAT IT READS IS OF BULK AT MOST 1048576: true; the input reads as it did. -/
def alignKnownUptoRow : OpenClaim := { program := "ytbdjcekekhgnkaa", sum := "7c27ef3eefd8b88972f09edd91ad6272a6dc5fee44d9328ac140556ea61f6616", func := "anabranch/anabranchlaw24.AlignKnown", spec := "alignKnown", unfollowed := true, recurses := true, apart := false, narrowed := true }
def AlignKnownUptoSaid : Prop := alignKnownUptoRow.holds Try.pinned (OpenSpec.upto alignKnownSpec)

end Rows
end Go.Proofs.Ytbdjcekekhgnkaa
