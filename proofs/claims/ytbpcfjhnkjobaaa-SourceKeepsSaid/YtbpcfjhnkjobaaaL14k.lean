/- PROVED: the law SourceKeeps returns true, whatever the drafts and the lateness: the frontier never falls, what goes on is not below it, all records come, in order, and it is over at its end; no condition. -/
import Derived.Test.YtbpcfjhnkjobaaaP14o
import Derived.Test.YtbpcfjhnkjobaaaA14
namespace Go.Proofs.Ytbpcfjhnkjobaaa
open Go.ChangeShapes Go.WideShapes Go.ChangeAt Go.RowKit Ab

theorem law4 : lawB Try.prog Try.f4 = true := by kernel_rfl

theorem keeps_lifted (os : Os) (started : os.Started) (H : Type) (enc : TypeId × Value → H) :
    ReturnsInHanded {} Try.checked os 4 .any (Rows.sourceKeepsSpec.pre6 enc Try.prog Try.f4 Rows.sourceKeepsRow.domain false) (Rows.sourceKeepsSpec.post enc Try.prog Try.f4 false true false false) := by
  refine returnsInHanded_of_change (C := Try.checked) Try.own started (by kernel_rfl) Try.func4
    (ChangeSpec.witness6 (enc := enc) (C := Try.checked) false ⟨#[], #[.slice none 0 0, .int .u8 0], []⟩ 8 (by kernel_rfl) (by kernel_rfl) (by kernel_rfl) (by kernel_rfl)) ?_
  intro W₀ base args ds gs before hval hW _ _
  have hW' := hW
  obtain ⟨p, q, hA, _⟩ := hW
  rw [show (Try.f4).params.toList = [22, 5] from by rw [Try.params4]] at hA
  obtain ⟨v1, v2, d1, d2, p1, p2, rfl, rfl, _, k1, k2⟩ := trodAll_two hA
  have o1 := arg_cell (k := .slice 55) (by kernel_rfl) (by kernel_rfl) (by kernel_rfl) (hval 0 22 v1 (by rw [Try.params4]; rfl) rfl) k1
  obtain ⟨f1, rfl, w4⟩ := arg_cell (k := .int .u8) (by kernel_rfl) (by kernel_rfl) (by kernel_rfl) (hval 1 5 v2 (by rw [Try.params4]; rfl) rfl) k2
  have T := tb_tabs (v2 := .slice none 0 0) o1 (.inl rfl)
  have hE := tb_tab W₀ v1 (.slice none 0 0)
  have H0 := T.start' hE
  have ha : RelL (tabT (tbOf W₀ v1 (.slice none 0 0))) (tabR (val14 v1 (.slice none 0 0))) (fun _ => none) [gV 0 0 v1, .int .u8 f1] #[v1, .int .u8 f1].toList :=
    .cons (T.rel' hE 0 0) (.cons (.int _ _) .nil)
  exact law_end' Try.laidOut law4 rfl hW' rfl H0 ha (keeps_gives (tb_okV o1) (inK_of w4))

theorem keeps_holds : Rows.SourceKeepsSaid :=
  OpenClaim.holds_of_wide 4 Try.f4 rfl rfl rfl rfl rfl rfl rfl ⟨rfl, rfl, rfl, rfl, rfl⟩ rfl rfl rfl rfl rfl (by kernel_rfl) Try.func4 (by kernel_rfl)
    (of_decide_eq_true (by kernel_rfl)) (by unfold Func.isWrapper; first | (rw [if_pos (by decide +kernel)]; kernel_rfl) | (rw [if_neg (by decide +kernel)]; exact ⟨rfl, rfl⟩))
    (fun os started H enc _ => keeps_lifted os started H enc)

#print axioms keeps_holds
end Go.Proofs.Ytbpcfjhnkjobaaa
