/- PROVED: the law FrameLays returns true, whatever the body and the noughts: a frame is as the document says; no condition. -/
import Derived.Test.YtbpcljkapkjheaaP02c
import Derived.Test.YtbpcljkapkjheaaE05
namespace Go.Proofs.Ytbpcljkapkjheaa
open Go.ChangeShapes Go.WideShapes Go.ChangeAt Go.RowKit Ab

theorem noE_plain : Plain noSeg := by
  intro t p j v h
  rw [noSeg_cell] at h; cases h

theorem law3 : lawB Try.prog Try.f3 = true := by kernel_rfl

theorem lays_lifted (os : Os) (started : os.Started) (H : Type) (enc : TypeId × Value → H) :
    ReturnsInHanded {} Try.checked os 3 .any (Rows.frameLaysSpec.pre6 enc Try.prog Try.f3 Rows.frameLaysRow.domain false) (Rows.frameLaysSpec.post enc Try.prog Try.f3 false true false false) := by
  refine returnsInHanded_of_change (C := Try.checked) Try.own started (by kernel_rfl) Try.func3
    (ChangeSpec.witness6 (enc := enc) (C := Try.checked) false ⟨#[], #[.string ByteArray.empty, .int .u32 0], []⟩ 8 (by kernel_rfl) (by kernel_rfl) (by kernel_rfl) (by kernel_rfl)) ?_
  intro W₀ base args ds gs before hval hW _ _
  have hW' := hW
  obtain ⟨p, q, hA, _⟩ := hW
  rw [show (Try.f3).params.toList = [9, 22] from by rw [Try.params3]] at hA
  obtain ⟨v1, v2, d1, d2, p1, p2, rfl, rfl, _, k1, k2⟩ := trodAll_two hA
  obtain ⟨t, rfl, _⟩ := arg_cell (k := .str) (by kernel_rfl) (by kernel_rfl) (by kernel_rfl) (hval 0 9 v1 (by rw [Try.params3]; rfl) rfl) k1
  obtain ⟨m, rfl, hm⟩ := arg_cell (k := .int .u32) (by kernel_rfl) (by kernel_rfl) (by kernel_rfl) (hval 1 22 v2 (by rw [Try.params3]; rfl) rfl) k2
  have hr : RelL noSeg noRa (fun _ => none) [.str t, .int .u32 m] #[.string t, .int .u32 m].toList := .cons (.str _) (.cons (.int _ _) .nil)
  exact law_end' Try.laidOut law3 rfl hW' rfl (WRel.start0 W₀) hr (lays_gives noE_plain t (inK_of hm))

theorem lays_holds : Rows.FrameLaysSaid :=
  OpenClaim.holds_of_wide 3 Try.f3 rfl rfl rfl rfl rfl rfl rfl ⟨rfl, rfl, rfl, rfl, rfl⟩ rfl rfl rfl rfl rfl (by kernel_rfl) Try.func3 (by kernel_rfl)
    (of_decide_eq_true (by kernel_rfl)) (by unfold Func.isWrapper; first | (rw [if_pos (by decide +kernel)]; kernel_rfl) | (rw [if_neg (by decide +kernel)]; exact ⟨rfl, rfl⟩))
    (fun os started H enc _ => lays_lifted os started H enc)

#print axioms lays_holds
end Go.Proofs.Ytbpcljkapkjheaa
