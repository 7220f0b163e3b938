/- PROVED: the law SinkKnown returns true; its code is run to its end by an abstract evaluator that is proved sound against the model; no condition. -/
import Derived.Test.YtgkejpfahpbnkaaP26b
import Derived.Test.YtgkejpfahpbnkaaE05
namespace Go.Proofs.Ytgkejpfahpbnkaa
open Go.ChangeShapes Go.WideShapes Go.ChangeAt Go.RowKit Ab

theorem noE_plain : Plain noSeg := by
  intro t p j v h
  rw [noSeg_cell] at h; cases h

theorem law4 : lawB Try.prog Try.f4 = true := by kernel_rfl

theorem known_lifted (os : Os) (started : os.Started) (H : Type) (enc : TypeId × Value → H) :
    ReturnsInHanded {} Try.checked os 4 .any (Rows.sinkKnownSpec.pre6 enc Try.prog Try.f4 Rows.sinkKnownRow.domain false) (Rows.sinkKnownSpec.post enc Try.prog Try.f4 false true false false) := by
  refine returnsInHanded_of_change (C := Try.checked) Try.own started (by kernel_rfl) Try.func4
    (ChangeSpec.witness6 (enc := enc) (C := Try.checked) false ⟨#[], #[], []⟩ 8 (by kernel_rfl) (by kernel_rfl) (by kernel_rfl) (by kernel_rfl)) ?_
  intro W₀ base args ds gs before hval hW _ _
  have hW' := hW
  obtain ⟨p, q, hA, _⟩ := hW
  rw [show (Try.f4).params.toList = [] from by rw [Try.params4]] at hA
  obtain ⟨hnil, rfl, _⟩ := trodAll_nil hA
  have hr : RelL noSeg noRa (fun _ => none) [] args.toList := by rw [hnil]; exact .nil
  exact law_end' Try.laidOut law4 rfl hW' rfl (WRel.start0 W₀) hr ((gives_of_eval noE_plain (W_ok (S1_ok noE_plain) noL_ok) (S1_ok noE_plain) known_true).2.mono fun _ _ h => h.1)

theorem known_holds : Rows.SinkKnownSaid :=
  OpenClaim.holds_of_wide 4 Try.f4 rfl rfl rfl rfl rfl rfl rfl ⟨rfl, rfl, rfl, rfl, rfl⟩ rfl rfl rfl rfl rfl (by kernel_rfl) Try.func4 (by kernel_rfl)
    (of_decide_eq_true (by kernel_rfl)) (by unfold Func.isWrapper; first | (rw [if_pos (by decide +kernel)]; kernel_rfl) | (rw [if_neg (by decide +kernel)]; exact ⟨rfl, rfl⟩))
    (fun os started H enc _ => known_lifted os started H enc)

#print axioms known_holds
end Go.Proofs.Ytgkejpfahpbnkaa
