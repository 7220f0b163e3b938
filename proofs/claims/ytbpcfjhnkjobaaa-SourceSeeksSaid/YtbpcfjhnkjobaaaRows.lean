/-
  No cell of these rows narrows 'for every input' (looked for: loops, veiled, ifaces, maps, wideKeys, modest, calm, conditions, laid).
  DERIVED. THE GIVEN ROWS OF THIS SEAT. 5 by the template 'for every input the law returns true; each argument reads behind the call as it read before'; 0 by the template 'total and deterministic' (their statements: YtbpcfjhnkjobaaaTotals.lean).
  GIVEN WITH THE SEED: the statements are not yours to turn. If you find one false, say at which input.
  Laid BY PROGRAM, IN A SANDBOX (cutbox-rows.mjs): the forced cells as the released guide's own fill.sh prints them over the translation 7464f384d25cf229… (all of the seat's roots in one cut). By AI agents, Wed Nov 11 2026. No macro, syntax, notation, axiom, sorry.
-/
import Derived.Test.YtbpcfjhnkjobaaaChecked
import GoSem.Claim
import GoSem.ClaimJoined
import GoSem.ClaimMapViews
import Derived.JoinedTies
import Derived.KernelRfl
namespace Go.Proofs.Ytbpcfjhnkjobaaa
/- THE CELL 'sum', in the pinned program and in every row, IS THE sha256 OF THE DUMP (.gsa) THAT YtbpcfjhnkjobaaaProg.lean LOADS. Nothing in Lean hashes anything: it is a label: what it is worth is what the hold of that sum in a sandbox is worth. -/
noncomputable def Try.pinned : Pinned := { name := "ytbpcfjhnkjobaaa", sum := "7464f384d25cf22987258250a6f40f362398703aeca397f8bdc7979405090e4a", checked := Try.checked }
namespace Rows
def none {H : Type} : Left H := { results := [], args := [] }

/-- 'anabranchlaw14.SourcePlays': WHATEVER THE INPUT: true; the input reads as it did. -/
def sourcePlaysSpec : ChangeSpec := { name := "sourcePlays", fn := fun _ => fun
  | [d1, d2, d3] => { results := [.lit (.bool true)], args := [d1, d2, d3] }
  | _ => none }
def sourcePlaysRow : OpenClaim := { program := "ytbpcfjhnkjobaaa", sum := "7464f384d25cf22987258250a6f40f362398703aeca397f8bdc7979405090e4a", func := "anabranch/anabranchlaw14.SourcePlays", spec := "sourcePlays", unfollowed := true, recurses := true, apart := false }
def SourcePlaysSaid : Prop := sourcePlaysRow.holds Try.pinned (OpenSpec.ofChange sourcePlaysSpec)

/-- ITS FALSE NEIGHBOUR: 'it returns false'. Refute it at one input. -/
def sourcePlaysWrong : ChangeSpec := { name := "sourcePlays", fn := fun _ => fun
  | [d1, d2, d3] => { results := [.lit (.bool false)], args := [d1, d2, d3] }
  | _ => none }
def SourcePlaysWrongFalsely : Prop := sourcePlaysRow.holds Try.pinned (OpenSpec.ofChange sourcePlaysWrong)

/-- 'anabranchlaw14.SourceKeeps': WHATEVER THE INPUT: true; the input reads as it did. -/
def sourceKeepsSpec : ChangeSpec := { name := "sourceKeeps", fn := fun _ => fun
  | [d1, d2] => { results := [.lit (.bool true)], args := [d1, d2] }
  | _ => none }
def sourceKeepsRow : OpenClaim := { program := "ytbpcfjhnkjobaaa", sum := "7464f384d25cf22987258250a6f40f362398703aeca397f8bdc7979405090e4a", func := "anabranch/anabranchlaw14.SourceKeeps", spec := "sourceKeeps", unfollowed := true, recurses := true, apart := false }
def SourceKeepsSaid : Prop := sourceKeepsRow.holds Try.pinned (OpenSpec.ofChange sourceKeepsSpec)

/-- ITS FALSE NEIGHBOUR: 'it returns false'. Refute it at one input. -/
def sourceKeepsWrong : ChangeSpec := { name := "sourceKeeps", fn := fun _ => fun
  | [d1, d2] => { results := [.lit (.bool false)], args := [d1, d2] }
  | _ => none }
def SourceKeepsWrongFalsely : Prop := sourceKeepsRow.holds Try.pinned (OpenSpec.ofChange sourceKeepsWrong)

/-- 'anabranchlaw14.SourceSeeks': WHATEVER THE INPUT: true; the input reads as it did. -/
def sourceSeeksSpec : ChangeSpec := { name := "sourceSeeks", fn := fun _ => fun
  | [d1, d2, d3] => { results := [.lit (.bool true)], args := [d1, d2, d3] }
  | _ => none }
def sourceSeeksRow : OpenClaim := { program := "ytbpcfjhnkjobaaa", sum := "7464f384d25cf22987258250a6f40f362398703aeca397f8bdc7979405090e4a", func := "anabranch/anabranchlaw14.SourceSeeks", spec := "sourceSeeks", unfollowed := true, recurses := true, apart := false }
def SourceSeeksSaid : Prop := sourceSeeksRow.holds Try.pinned (OpenSpec.ofChange sourceSeeksSpec)

/-- ITS FALSE NEIGHBOUR: 'it returns false'. Refute it at one input. -/
def sourceSeeksWrong : ChangeSpec := { name := "sourceSeeks", fn := fun _ => fun
  | [d1, d2, d3] => { results := [.lit (.bool false)], args := [d1, d2, d3] }
  | _ => none }
def SourceSeeksWrongFalsely : Prop := sourceSeeksRow.holds Try.pinned (OpenSpec.ofChange sourceSeeksWrong)

/-- 'anabranchlaw14.SourceKnown': WHATEVER THE INPUT: true; the input reads as it did. -/
def sourceKnownSpec : ChangeSpec := { name := "sourceKnown", fn := fun _ => fun
  | [] => { results := [.lit (.bool true)], args := [] }
  | _ => none }
def sourceKnownRow : OpenClaim := { program := "ytbpcfjhnkjobaaa", sum := "7464f384d25cf22987258250a6f40f362398703aeca397f8bdc7979405090e4a", func := "anabranch/anabranchlaw14.SourceKnown", spec := "sourceKnown", unfollowed := true, recurses := true, apart := false }
def SourceKnownSaid : Prop := sourceKnownRow.holds Try.pinned (OpenSpec.ofChange sourceKnownSpec)

/-- ITS FALSE NEIGHBOUR: 'it returns false'. Refute it at one input. -/
def sourceKnownWrong : ChangeSpec := { name := "sourceKnown", fn := fun _ => fun
  | [] => { results := [.lit (.bool false)], args := [] }
  | _ => none }
def SourceKnownWrongFalsely : Prop := sourceKnownRow.holds Try.pinned (OpenSpec.ofChange sourceKnownWrong)

/-- 'anabranchlaw14.SourceLate': WHATEVER THE INPUT: true; the input reads as it did. -/
def sourceLateSpec : ChangeSpec := { name := "sourceLate", fn := fun _ => fun
  | [d1, d2] => { results := [.lit (.bool true)], args := [d1, d2] }
  | _ => none }
def sourceLateRow : OpenClaim := { program := "ytbpcfjhnkjobaaa", sum := "7464f384d25cf22987258250a6f40f362398703aeca397f8bdc7979405090e4a", func := "anabranch/anabranchlaw14.SourceLate", spec := "sourceLate", unfollowed := true, recurses := true, apart := false }
def SourceLateSaid : Prop := sourceLateRow.holds Try.pinned (OpenSpec.ofChange sourceLateSpec)

/-- ITS FALSE NEIGHBOUR: 'it returns false'. Refute it at one input. -/
def sourceLateWrong : ChangeSpec := { name := "sourceLate", fn := fun _ => fun
  | [d1, d2] => { results := [.lit (.bool false)], args := [d1, d2] }
  | _ => none }
def SourceLateWrongFalsely : Prop := sourceLateRow.holds Try.pinned (OpenSpec.ofChange sourceLateWrong)

/- THE SECOND FORM. 'bulk': how many values and letters a reading holds, each counted each time it is reached (what is shared counts as often as it is met; a slice's spare places count too). A statement '..UptoSaid' is the law's where the arguments, and the package variables that the reading takes, are together of bulk at most 1048576: NARROWER than '..Said'. Prove '..Said' where nothing that the law and all that it calls make is longer than what came in: it says more and counts as full. Else prove '..UptoSaid'. A law counts once. -/
mutual
def uptoBulk {H : Type} : DataW H → Nat
  | .lit (.string bytes) => bytes.length + 1
  | .lit _ => 1
  | .nil => 1
  | .ptr d => uptoBulk d + 1
  | .slice elems spare => uptoBulkAll elems + uptoBulkAll spare + 1
  | .agg parts => uptoBulkAll parts + 1
  | .iface _ d => uptoBulk d + 1
  | .map entries => uptoBulkEntries entries + 1
  | .held _ => 1
def uptoBulkAll {H : Type} : List (DataW H) → Nat
  | [] => 0
  | d :: r => uptoBulk d + uptoBulkAll r
def uptoBulkEntries {H : Type} : List (Lit × DataW H) → Nat
  | [] => 0
  | x :: r => uptoBulkEntry x + uptoBulkEntries r
def uptoBulkEntry {H : Type} : Lit × DataW H → Nat
  | (.string bytes, d) => bytes.length + uptoBulk d + 1
  | (_, d) => uptoBulk d + 1
 end
def uptoSmall : (H : Type) → List (DataW H) → Bool := fun _ ds => decide (uptoBulkAll ds ≤ 1048576)
def OpenSpec.upto (s : _root_.Go.ChangeSpec) : _root_.Go.OpenSpec := { _root_.Go.OpenSpec.ofChange s with cond := some uptoSmall }

/-- 'anabranchlaw14.SourcePlays', WHERE WHAT IT READS IS OF BULK AT MOST 1048576: true; the input reads as it did. -/
def sourcePlaysUptoRow : OpenClaim := { program := "ytbpcfjhnkjobaaa", sum := "7464f384d25cf22987258250a6f40f362398703aeca397f8bdc7979405090e4a", func := "anabranch/anabranchlaw14.SourcePlays", spec := "sourcePlays", unfollowed := true, recurses := true, apart := false, narrowed := true }
def SourcePlaysUptoSaid : Prop := sourcePlaysUptoRow.holds Try.pinned (OpenSpec.upto sourcePlaysSpec)

/-- 'anabranchlaw14.SourceKeeps', WHERE WHAT IT READS IS OF BULK AT MOST 1048576: true; the input reads as it did. -/
def sourceKeepsUptoRow : OpenClaim := { program := "ytbpcfjhnkjobaaa", sum := "7464f384d25cf22987258250a6f40f362398703aeca397f8bdc7979405090e4a", func := "anabranch/anabranchlaw14.SourceKeeps", spec := "sourceKeeps", unfollowed := true, recurses := true, apart := false, narrowed := true }
def SourceKeepsUptoSaid : Prop := sourceKeepsUptoRow.holds Try.pinned (OpenSpec.upto sourceKeepsSpec)

/-- 'anabranchlaw14.SourceSeeks', WHERE WHAT IT READS IS OF BULK AT MOST 1048576: true; the input reads as it did. -/
def sourceSeeksUptoRow : OpenClaim := { program := "ytbpcfjhnkjobaaa", sum := "7464f384d25cf22987258250a6f40f362398703aeca397f8bdc7979405090e4a", func := "anabranch/anabranchlaw14.SourceSeeks", spec := "sourceSeeks", unfollowed := true, recurses := true, apart := false, narrowed := true }
def SourceSeeksUptoSaid : Prop := sourceSeeksUptoRow.holds Try.pinned (OpenSpec.upto sourceSeeksSpec)

/-- 'anabranchlaw14.SourceKnown', WHERE WHAT IT READS IS OF BULK AT MOST 1048576: true; the input reads as it did. -/
def sourceKnownUptoRow : OpenClaim := { program := "ytbpcfjhnkjobaaa", sum := "7464f384d25cf22987258250a6f40f362398703aeca397f8bdc7979405090e4a", func := "anabranch/anabranchlaw14.SourceKnown", spec := "sourceKnown", unfollowed := true, recurses := true, apart := false, narrowed := true }
def SourceKnownUptoSaid : Prop := sourceKnownUptoRow.holds Try.pinned (OpenSpec.upto sourceKnownSpec)

/-- 'anabranchlaw14.SourceLate', WHERE WHAT IT READS IS OF BULK AT MOST 1048576: true; the input reads as it did. -/
def sourceLateUptoRow : OpenClaim := { program := "ytbpcfjhnkjobaaa", sum := "7464f384d25cf22987258250a6f40f362398703aeca397f8bdc7979405090e4a", func := "anabranch/anabranchlaw14.SourceLate", spec := "sourceLate", unfollowed := true, recurses := true, apart := false, narrowed := true }
def SourceLateUptoSaid : Prop := sourceLateUptoRow.holds Try.pinned (OpenSpec.upto sourceLateSpec)

end Rows
end Go.Proofs.Ytbpcfjhnkjobaaa
