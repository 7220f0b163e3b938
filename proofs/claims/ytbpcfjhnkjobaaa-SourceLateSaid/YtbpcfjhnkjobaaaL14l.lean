/- PROVED: the law SourceLate returns true, whatever the drafts and the latenesses: with a greater lateness the frontier is never greater, and what went on goes on; no condition. -/
import Derived.Test.YtbpcfjhnkjobaaaP14j
import Derived.Test.YtbpcfjhnkjobaaaA14
namespace Go.Proofs.Ytbpcfjhnkjobaaa
open Go.ChangeShapes Go.WideShapes Go.ChangeAt Go.RowKit Ab

theorem law7 : lawB Try.prog Try.f7 = true := by kernel_rfl

theorem late_lifted (os : Os) (started : os.Started) (H : Type) (enc : TypeId × Value → H) :
    ReturnsInHanded {} Try.checked os 7 .any (Rows.sourceLateSpec.pre6 enc Try.prog Try.f7 Rows.sourceLateRow.domain false) (Rows.sourceLateSpec.post enc Try.prog Try.f7 false true false false) := by
  refine returnsInHanded_of_change (C := Try.checked) Try.own started (by kernel_rfl) Try.func7
    (ChangeSpec.witness6 (enc := enc) (C := Try.checked) false ⟨#[], #[.slice none 0 0, .agg #[.int .u8 0, .int .u8 0]], []⟩ 8 (by kernel_rfl) (by kernel_rfl) (by kernel_rfl) (by kernel_rfl)) ?_
  intro W₀ base args ds gs before hval hW _ _
  have hW' := hW
  obtain ⟨p, q, hA, _⟩ := hW
  rw [show (Try.f7).params.toList = [22, 52] from by rw [Try.params7]] at hA
  obtain ⟨v1, v2, d1, d2, p1, p2, rfl, rfl, _, k1, k2⟩ := trodAll_two hA
  have o1 := arg_cell (k := .slice 55) (by kernel_rfl) (by kernel_rfl) (by kernel_rfl) (hval 0 22 v1 (by rw [Try.params7]; rfl) rfl) k1
  obtain ⟨cs2, rfl, o2⟩ := arg_row (ks := [.int .u8, .int .u8]) (by kernel_rfl) (by kernel_rfl) (hval 1 52 v2 (by rw [Try.params7]; rfl) rfl) k2
  cases o2 with | cons g4 o2 =>
  cases o2 with | cons g5 o2 =>
  cases o2
  obtain ⟨f1, rfl, w4⟩ := g4
  obtain ⟨f2, rfl, w5⟩ := g5
  have T := tb_tabs (v2 := .slice none 0 0) o1 (.inl rfl)
  have hE := tb_tab W₀ v1 (.slice none 0 0)
  have H0 := T.start' hE
  have ha : RelL (tabT (tbOf W₀ v1 (.slice none 0 0))) (tabR (val14 v1 (.slice none 0 0))) (fun _ => none) [gV 0 0 v1, .agg [.int .u8 f1, .int .u8 f2]] #[v1, .agg #[.int .u8 f1, .int .u8 f2]].toList :=
    .cons (T.rel' hE 0 0) (.cons (.agg (.cons (.int _ _) (.cons (.int _ _) .nil))) .nil)
  exact law_end' Try.laidOut law7 rfl hW' rfl H0 ha (late_gives (tb_okV o1) (inK_of w4) (inK_of w5))

theorem late_holds : Rows.SourceLateSaid :=
  OpenClaim.holds_of_wide 7 Try.f7 rfl rfl rfl rfl rfl rfl rfl ⟨rfl, rfl, rfl, rfl, rfl⟩ rfl rfl rfl rfl rfl (by kernel_rfl) Try.func7 (by kernel_rfl)
    (of_decide_eq_true (by kernel_rfl)) (by unfold Func.isWrapper; first | (rw [if_pos (by decide +kernel)]; kernel_rfl) | (rw [if_neg (by decide +kernel)]; exact ⟨rfl, rfl⟩))
    (fun os started H enc _ => late_lifted os started H enc)

#print axioms late_holds
end Go.Proofs.Ytbpcfjhnkjobaaa
