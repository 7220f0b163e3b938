/-
  No cell of these rows narrows 'for every input' (looked for: loops, veiled, ifaces, maps, wideKeys, modest, calm, conditions, laid).
  DERIVED. THE GIVEN ROWS OF THIS SEAT. 4 by the template 'for every input the law returns true; each argument reads behind the call as it read before'; 0 by the template 'total and deterministic' (their statements: YtoahbijmemgghaaTotals.lean).
  GIVEN WITH THE SEED: the statements are not yours to turn. If you find one false, say at which input.
  Laid BY PROGRAM, IN A SANDBOX (cutbox-rows.mjs): the forced cells as the released guide's own fill.sh prints them over the translation 848cbd8fd5878f64… (all of the seat's roots in one cut). By AI agents, Wed Nov 11 2026. No macro, syntax, notation, axiom, sorry.
-/
import Derived.Test.YtoahbijmemgghaaChecked
import GoSem.Claim
import GoSem.ClaimJoined
import GoSem.ClaimMapViews
import Derived.JoinedTies
import Derived.KernelRfl
namespace Go.Proofs.Ytoahbijmemgghaa
/- THE CELL 'sum', in the pinned program and in every row, IS THE sha256 OF THE DUMP (.gsa) THAT YtoahbijmemgghaaProg.lean LOADS. Nothing in Lean hashes anything: it is a label: what it is worth is what the hold of that sum in a sandbox is worth. -/
noncomputable def Try.pinned : Pinned := { name := "ytoahbijmemgghaa", sum := "848cbd8fd5878f648c662b905b97790dd364f7192a88e42559cb41b196eceb27", checked := Try.checked }
namespace Rows
def none {H : Type} : Left H := { results := [], args := [] }

/-- 'anabranchlaw20.SendPlays': WHATEVER THE INPUT: true; the input reads as it did. -/
def sendPlaysSpec : ChangeSpec := { name := "sendPlays", fn := fun _ => fun
  | [d1, d2, d3] => { results := [.lit (.bool true)], args := [d1, d2, d3] }
  | _ => none }
def sendPlaysRow : OpenClaim := { program := "ytoahbijmemgghaa", sum := "848cbd8fd5878f648c662b905b97790dd364f7192a88e42559cb41b196eceb27", func := "anabranch/anabranchlaw20.SendPlays", spec := "sendPlays", unfollowed := true, recurses := true, apart := false }
def SendPlaysSaid : Prop := sendPlaysRow.holds Try.pinned (OpenSpec.ofChange sendPlaysSpec)

/-- ITS FALSE NEIGHBOUR: 'it returns false'. Refute it at one input. -/
def sendPlaysWrong : ChangeSpec := { name := "sendPlays", fn := fun _ => fun
  | [d1, d2, d3] => { results := [.lit (.bool false)], args := [d1, d2, d3] }
  | _ => none }
def SendPlaysWrongFalsely : Prop := sendPlaysRow.holds Try.pinned (OpenSpec.ofChange sendPlaysWrong)

/-- 'anabranchlaw20.SendOrder': WHATEVER THE INPUT: true; the input reads as it did. -/
def sendOrderSpec : ChangeSpec := { name := "sendOrder", fn := fun _ => fun
  | [d1, d2] => { results := [.lit (.bool true)], args := [d1, d2] }
  | _ => none }
def sendOrderRow : OpenClaim := { program := "ytoahbijmemgghaa", sum := "848cbd8fd5878f648c662b905b97790dd364f7192a88e42559cb41b196eceb27", func := "anabranch/anabranchlaw20.SendOrder", spec := "sendOrder", unfollowed := true, recurses := true, apart := false }
def SendOrderSaid : Prop := sendOrderRow.holds Try.pinned (OpenSpec.ofChange sendOrderSpec)

/-- ITS FALSE NEIGHBOUR: 'it returns false'. Refute it at one input. -/
def sendOrderWrong : ChangeSpec := { name := "sendOrder", fn := fun _ => fun
  | [d1, d2] => { results := [.lit (.bool false)], args := [d1, d2] }
  | _ => none }
def SendOrderWrongFalsely : Prop := sendOrderRow.holds Try.pinned (OpenSpec.ofChange sendOrderWrong)

/-- 'anabranchlaw20.SendKnown': WHATEVER THE INPUT: true; the input reads as it did. -/
def sendKnownSpec : ChangeSpec := { name := "sendKnown", fn := fun _ => fun
  | [] => { results := [.lit (.bool true)], args := [] }
  | _ => none }
def sendKnownRow : OpenClaim := { program := "ytoahbijmemgghaa", sum := "848cbd8fd5878f648c662b905b97790dd364f7192a88e42559cb41b196eceb27", func := "anabranch/anabranchlaw20.SendKnown", spec := "sendKnown", unfollowed := true, recurses := true, apart := false }
def SendKnownSaid : Prop := sendKnownRow.holds Try.pinned (OpenSpec.ofChange sendKnownSpec)

/-- ITS FALSE NEIGHBOUR: 'it returns false'. Refute it at one input. -/
def sendKnownWrong : ChangeSpec := { name := "sendKnown", fn := fun _ => fun
  | [] => { results := [.lit (.bool false)], args := [] }
  | _ => none }
def SendKnownWrongFalsely : Prop := sendKnownRow.holds Try.pinned (OpenSpec.ofChange sendKnownWrong)

/-- 'anabranchlaw20.SendAcks': WHATEVER THE INPUT: true; the input reads as it did. -/
def sendAcksSpec : ChangeSpec := { name := "sendAcks", fn := fun _ => fun
  | [d1, d2, d3] => { results := [.lit (.bool true)], args := [d1, d2, d3] }
  | _ => none }
def sendAcksRow : OpenClaim := { program := "ytoahbijmemgghaa", sum := "848cbd8fd5878f648c662b905b97790dd364f7192a88e42559cb41b196eceb27", func := "anabranch/anabranchlaw20.SendAcks", spec := "sendAcks", unfollowed := true, recurses := true, apart := false }
def SendAcksSaid : Prop := sendAcksRow.holds Try.pinned (OpenSpec.ofChange sendAcksSpec)

/-- ITS FALSE NEIGHBOUR: 'it returns false'. Refute it at one input. -/
def sendAcksWrong : ChangeSpec := { name := "sendAcks", fn := fun _ => fun
  | [d1, d2, d3] => { results := [.lit (.bool false)], args := [d1, d2, d3] }
  | _ => none }
def SendAcksWrongFalsely : Prop := sendAcksRow.holds Try.pinned (OpenSpec.ofChange sendAcksWrong)

/- THE SECOND FORM. 'bulk': how many values and letters a reading holds, each counted each time it is reached (what is shared counts as often as it is met; a slice's spare places count too). A statement '..UptoSaid' is the law's where the arguments, and the package variables that the reading takes, are together of bulk at most 1048576: NARROWER than '..Said'. Prove '..Said' where nothing that the law and all that it calls make is longer than what came in: it says more and counts as full. Else prove '..UptoSaid'. A law counts once. -/
mutual
def uptoBulk {H : Type} : DataW H → Nat
  | .lit (.string bytes) => bytes.length + 1
  | .lit _ => 1
  | .nil => 1
  | .ptr d => uptoBulk d + 1
  | .slice elems spare => uptoBulkAll elems + uptoBulkAll spare + 1
  | .agg parts => uptoBulkAll parts + 1
  | .iface _ d => uptoBulk d + 1
  | .map entries => uptoBulkEntries entries + 1
  | .held _ => 1
def uptoBulkAll {H : Type} : List (DataW H) → Nat
  | [] => 0
  | d :: r => uptoBulk d + uptoBulkAll r
def uptoBulkEntries {H : Type} : List (Lit × DataW H) → Nat
  | [] => 0
  | x :: r => uptoBulkEntry x + uptoBulkEntries r
def uptoBulkEntry {H : Type} : Lit × DataW H → Nat
  | (.string bytes, d) => bytes.length + uptoBulk d + 1
  | (_, d) => uptoBulk d + 1
 end
def uptoSmall : (H : Type) → List (DataW H) → Bool := fun _ ds => decide (uptoBulkAll ds ≤ 1048576)
def OpenSpec.upto (s : _root_.Go.ChangeSpec) : _root_.Go.OpenSpec := { _root_.Go.OpenSpec.ofChange s with cond := some uptoSmall }

/-- 'anabranchlaw20.SendPlays', WHERE WHAT IT READS IS OF BULK AT MOST 1048576: true; the input reads as it did. -/
def sendPlaysUptoRow : OpenClaim := { program := "ytoahbijmemgghaa", sum := "848cbd8fd5878f648c662b905b97790dd364f7192a88e42559cb41b196eceb27", func := "anabranch/anabranchlaw20.SendPlays", spec := "sendPlays", unfollowed := true, recurses := true, apart := false, narrowed := true }
def SendPlaysUptoSaid : Prop := sendPlaysUptoRow.holds Try.pinned (OpenSpec.upto sendPlaysSpec)

/-- 'anabranchlaw20.SendOrder', WHERE WHAT IT READS IS OF BULK AT MOST 1048576: true; the input reads as it did. -/
def sendOrderUptoRow : OpenClaim := { program := "ytoahbijmemgghaa", sum := "848cbd8fd5878f648c662b905b97790dd364f7192a88e42559cb41b196eceb27", func := "anabranch/anabranchlaw20.SendOrder", spec := "sendOrder", unfollowed := true, recurses := true, apart := false, narrowed := true }
def SendOrderUptoSaid : Prop := sendOrderUptoRow.holds Try.pinned (OpenSpec.upto sendOrderSpec)

/-- 'anabranchlaw20.SendKnown', WHERE WHAT IT READS IS OF BULK AT MOST 1048576: true; the input reads as it did. -/
def sendKnownUptoRow : OpenClaim := { program := "ytoahbijmemgghaa", sum := "848cbd8fd5878f648c662b905b97790dd364f7192a88e42559cb41b196eceb27", func := "anabranch/anabranchlaw20.SendKnown", spec := "sendKnown", unfollowed := true, recurses := true, apart := false, narrowed := true }
def SendKnownUptoSaid : Prop := sendKnownUptoRow.holds Try.pinned (OpenSpec.upto sendKnownSpec)

/-- 'anabranchlaw20.SendAcks', WHERE WHAT IT READS IS OF BULK AT MOST 1048576: true; the input reads as it did. -/
def sendAcksUptoRow : OpenClaim := { program := "ytoahbijmemgghaa", sum := "848cbd8fd5878f648c662b905b97790dd364f7192a88e42559cb41b196eceb27", func := "anabranch/anabranchlaw20.SendAcks", spec := "sendAcks", unfollowed := true, recurses := true, apart := false, narrowed := true }
def SendAcksUptoSaid : Prop := sendAcksUptoRow.holds Try.pinned (OpenSpec.upto sendAcksSpec)

end Rows
end Go.Proofs.Ytoahbijmemgghaa
