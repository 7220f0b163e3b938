/- PROVED: the law AccKnown returns true; its code is run to its end by an abstract evaluator that is proved sound against the model, in whatever order Go leaves open; no condition. -/
import Derived.Test.YtebpekgijakonaaRows
import Derived.Test.YtebpekgijakonaaE19
namespace Go.Proofs.Ytebpekgijakonaa
open Go.ChangeShapes Go.WideShapes Go.ChangeAt Go.RowKit Ab

theorem Try.own : ownKnob Try.prog.godebug = none := by kernel_rfl
theorem Try.laidOut : laidOutB Try.prog = true := by kernel_rfl
theorem Try.names : NamesOK Try.prog := names_ok (by kernel_rfl)
theorem Try.mixed : Try.prog.follows .mixedOrders = true := by kernel_rfl

theorem ext : ExtsOK Try.prog noSeg noRa (extAdd 18) :=
  extAdd_ok Try.func18 (by kernel_rfl) (by kernel_rfl) (by kernel_rfl) (by kernel_rfl)

theorem known_runs : isTrue ((callB Try.prog noSeg (fun _ => none) (exec Try.prog noSeg (fun _ => none) (extAdd 18) 400) 7 []).eval s0) = true := by kernel_rfl

theorem law_known : lawB Try.prog Try.f7 = true := by kernel_rfl

theorem known_lifted (os : Os) (started : os.Started) (H : Type) (enc : TypeId × Value → H) :
    ReturnsInHanded {} Try.checked os 7 .any (Rows.accKnownSpec.pre6 enc Try.prog Try.f7 Rows.accKnownRow.domain false) (Rows.accKnownSpec.post enc Try.prog Try.f7 false true false false) := by
  refine returnsInHanded_of_change (C := Try.checked) Try.own started (by kernel_rfl) Try.func7
    (ChangeSpec.witness6 (enc := enc) (C := Try.checked) false ⟨#[], #[], []⟩ 8 (by kernel_rfl) (by kernel_rfl) (by kernel_rfl) (by kernel_rfl)) ?_
  intro W base args ds gs before _ hW _ _
  have hW' := hW
  obtain ⟨p, q, hA, _⟩ := hW
  rw [show (Try.f7).params.toList = [] from by rw [Try.params7]] at hA
  obtain ⟨rfl, rfl, rfl⟩ := trodAll_none hA
  have key : Calls Try.prog 7 #[] W fun e W' => e = .returned (.bool true) ∧ RowKit.Below W.heap.size W W' := known_calls ext Try.names Try.mixed known_runs W
  refine Calls.mono key ?_
  rintro e W' ⟨rfl, hb⟩
  exact ⟨_, rfl, post_true (P := Try.prog) Try.laidOut law_known rfl hW' rfl hb⟩

theorem known_holds : Rows.AccKnownSaid :=
  OpenClaim.holds_of_wide 7 Try.f7 rfl rfl rfl rfl rfl rfl rfl ⟨rfl, rfl, rfl, rfl, rfl⟩ rfl rfl rfl rfl rfl (by kernel_rfl) Try.func7 (by kernel_rfl)
    (of_decide_eq_true (by kernel_rfl)) (by unfold Func.isWrapper; first | (rw [if_pos (by decide +kernel)]; kernel_rfl) | (rw [if_neg (by decide +kernel)]; exact ⟨rfl, rfl⟩))
    (fun os started H enc _ => known_lifted os started H enc)

#print axioms known_holds
end Go.Proofs.Ytebpekgijakonaa
