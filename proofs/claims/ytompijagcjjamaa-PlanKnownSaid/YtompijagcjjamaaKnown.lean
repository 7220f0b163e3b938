/- PROVED: the law PlanKnown returns true; its code is run to its end by an abstract evaluator that is proved sound against the model, in whatever order Go leaves open; no condition. -/
import Derived.Test.YtompijagcjjamaaRows
import Derived.Test.YtompijagcjjamaaE22
namespace Go.Proofs.Ytompijagcjjamaa
open Go.ChangeShapes Go.WideShapes Go.ChangeAt Go.RowKit Ab

theorem Try.own : ownKnob Try.prog.godebug = none := by kernel_rfl
theorem Try.laidOut : laidOutB Try.prog = true := by kernel_rfl
theorem Try.names : NamesOK Try.prog := names_ok (by kernel_rfl)
theorem Try.mixed : Try.prog.follows .mixedOrders = true := by kernel_rfl

theorem ext : ExtsOK Try.prog noSeg noRa (fun _ => none) := extNone_ok

def sums0 : Sums := fun _ => none
theorem sums0_ok (base : Nat) : SumsOK Try.prog noSeg noRa base sums0 := sumNone_ok

def val1 : AVal := .agg [.int .i64 0, .fn 34 [], .fn 35 [], .int .i64 0, .fn 36 [], .fn 38 [], .int .i64 0, .fn 39 [], .fn 41 [], .int .i64 0, .fn 42 [], .fn 43 [], .int .i64 1, .fn 44 [], .nilf, .int .i64 1, .fn 45 [], .nilf, .int .i64 1, .fn 44 [], .nilf, .int .i64 2, .fn 44 [], .nilf]
def sums1 : Sums := sumF 27 (constA val1) sums0
theorem run1 : valE (callBE Try.prog noSeg sums0 (execE Try.prog noSeg sums0 (fun _ => none) 400) 27 [] s0) = some val1 := by kernel_rfl
theorem sums1_ok (base : Nat) : SumsOK Try.prog noSeg noRa base sums1 :=
  sumC_run (n := 400) ext Try.names Try.mixed plain_noSeg (sums0_ok base) (by kernel_rfl) run1

def val2 : AVal := .bool true
def sums2 : Sums := sumF 5 (constA val2) sums1
theorem run2 : valE (callBE Try.prog noSeg sums1 (execE Try.prog noSeg sums1 (fun _ => none) 400) 5 [] s0) = some val2 := by kernel_rfl
theorem sums2_ok (base : Nat) : SumsOK Try.prog noSeg noRa base sums2 :=
  sumC_run (n := 400) ext Try.names Try.mixed plain_noSeg (sums1_ok base) (by kernel_rfl) run2

theorem known_runs : valE (callBE Try.prog noSeg sums2 (execE Try.prog noSeg sums2 (fun _ => none) 400) 4 [] s0) = some (.bool true) := by kernel_rfl

theorem law_known : lawB Try.prog Try.f4 = true := by kernel_rfl

theorem known_lifted (os : Os) (started : os.Started) (H : Type) (enc : TypeId × Value → H) :
    ReturnsInHanded {} Try.checked os 4 .any (Rows.planKnownSpec.pre6 enc Try.prog Try.f4 Rows.planKnownRow.domain false) (Rows.planKnownSpec.post enc Try.prog Try.f4 false true false false) := by
  refine returnsInHanded_of_change (C := Try.checked) Try.own started (by kernel_rfl) Try.func4
    (ChangeSpec.witness6 (enc := enc) (C := Try.checked) false ⟨#[], #[], []⟩ 8 (by kernel_rfl) (by kernel_rfl) (by kernel_rfl) (by kernel_rfl)) ?_
  intro W base args ds gs before _ hW _ _
  have hW' := hW
  obtain ⟨p, q, hA, _⟩ := hW
  rw [show (Try.f4).params.toList = [] from by rw [Try.params4]] at hA
  obtain ⟨rfl, rfl, rfl⟩ := trodAll_none hA
  have key : Calls Try.prog 4 #[] W fun e W' => e = .returned (.bool true) ∧ RowKit.Below W.heap.size W W' := known_callsS sums2_ok ext Try.names Try.mixed known_runs W
  refine Calls.mono key ?_
  rintro e W' ⟨rfl, hb⟩
  exact ⟨_, rfl, post_true (P := Try.prog) Try.laidOut law_known rfl hW' rfl hb⟩

theorem known_holds : Rows.PlanKnownSaid :=
  OpenClaim.holds_of_wide 4 Try.f4 rfl rfl rfl rfl rfl rfl rfl ⟨rfl, rfl, rfl, rfl, rfl⟩ rfl rfl rfl rfl rfl (by kernel_rfl) Try.func4 (by kernel_rfl)
    (of_decide_eq_true (by kernel_rfl)) (by unfold Func.isWrapper; first | (rw [if_pos (by decide +kernel)]; kernel_rfl) | (rw [if_neg (by decide +kernel)]; exact ⟨rfl, rfl⟩))
    (fun os started H enc _ => known_lifted os started H enc)

#print axioms known_holds
end Go.Proofs.Ytompijagcjjamaa
