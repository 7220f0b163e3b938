/- The program's facts; the walk; the code at a place. -/
import Derived.Test.YtbdjcekekhgnkaaRows
import Derived.Test.YtbdjcekekhgnkaaE05
namespace Go.Proofs.Ytbdjcekekhgnkaa
open Go.ChangeShapes Go.WideShapes Go.ChangeAt Go.RowKit Ab

theorem Try.own : ownKnob Try.prog.godebug = none := by kernel_rfl
theorem Try.laidOut : laidOutB Try.prog = true := by kernel_rfl
theorem Try.names : NamesOK Try.prog := names_ok (by kernel_rfl)
theorem Try.mixed : Try.prog.follows .mixedOrders = true := by kernel_rfl

theorem ext {E : Nat → Nat → Seg} {ra : Nat → Nat → Nat × Nat} : ExtsOK Try.prog E ra (fun _ => none) := extNone_ok

noncomputable def W (E : Nat → Nat → Seg) (S : Sums) (L : Loops) : Walk := exec Try.prog E S (fun _ => none) L 400
noncomputable def codeOf (f : FuncId) (p : List Bool) : Code := match codeAt Try.prog f p with
  | some c => c
  | none => .skip
def noS : Sums := fun _ => none

theorem W_ok {E : Nat → Nat → Seg} {ra : Nat → Nat → Nat × Nat} {base : Nat} {S : Sums} {L : Loops} (hS : SumsOK Try.prog E ra base S) (hL : LoopsOK Try.prog E ra base L) : ExecOK Try.prog E ra base (W E S L) :=
  exec_sound hL hS ext Try.names Try.mixed 400

def trueD : CDeal Unit where
  args _ := []
  blks _ := []
  pre _ := true
  out _ := .bool true
  blks' _ := []

end Go.Proofs.Ytbdjcekekhgnkaa
