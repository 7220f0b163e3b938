/- PROVED: the law SourcePlays returns true, whatever the drafts, the lateness and the steps: the program's source is the document's; no condition. -/
import Derived.Test.YtbpcfjhnkjobaaaP14g
import Derived.Test.YtbpcfjhnkjobaaaA14
namespace Go.Proofs.Ytbpcfjhnkjobaaa
open Go.ChangeShapes Go.WideShapes Go.ChangeAt Go.RowKit Ab

theorem law3 : lawB Try.prog Try.f3 = true := by kernel_rfl

theorem plays_lifted (os : Os) (started : os.Started) (H : Type) (enc : TypeId × Value → H) :
    ReturnsInHanded {} Try.checked os 3 .any (Rows.sourcePlaysSpec.pre6 enc Try.prog Try.f3 Rows.sourcePlaysRow.domain false) (Rows.sourcePlaysSpec.post enc Try.prog Try.f3 false true false false) := by
  refine returnsInHanded_of_change (C := Try.checked) Try.own started (by kernel_rfl) Try.func3
    (ChangeSpec.witness6 (enc := enc) (C := Try.checked) false ⟨#[], #[.slice none 0 0, .int .i64 0, .slice none 0 0], []⟩ 8 (by kernel_rfl) (by kernel_rfl) (by kernel_rfl) (by kernel_rfl)) ?_
  intro W₀ base args ds gs before hval hW _ _
  have hW' := hW
  obtain ⟨p, q, hA, _⟩ := hW
  rw [show (Try.f3).params.toList = [22, 2, 23] from by rw [Try.params3]] at hA
  obtain ⟨v1, v2, v3, d1, d2, d3, p1, p2, p3, rfl, rfl, _, k1, k2, k3⟩ := trodAll_three hA
  have o1 := arg_cell (k := .slice 55) (by kernel_rfl) (by kernel_rfl) (by kernel_rfl) (hval 0 22 v1 (by rw [Try.params3]; rfl) rfl) k1
  obtain ⟨b, rfl, hb⟩ := arg_cell (k := .int .i64) (by kernel_rfl) (by kernel_rfl) (by kernel_rfl) (hval 1 2 v2 (by rw [Try.params3]; rfl) rfl) k2
  have o3 := arg_cell (k := .slice 31) (by kernel_rfl) (by kernel_rfl) (by kernel_rfl) (hval 2 23 v3 (by rw [Try.params3]; rfl) rfl) k3
  have T := tb_tabs o1 o3
  have hE := tb_tab W₀ v1 v3
  have H0 := T.start' hE
  have ha : RelL (tabT (tbOf W₀ v1 v3)) (tabR (val14 v1 v3)) (fun _ => none) [gV 0 0 v1, .int .i64 b, gV 1 0 v3] #[v1, .int .i64 b, v3].toList := .cons (T.rel' hE 0 0) (.cons (.int _ _) (.cons (T.rel' hE 1 0) .nil))
  exact law_end' Try.laidOut law3 rfl hW' rfl H0 ha (plays_gives (tb_okV o1) (tb_okS o3) b)

theorem plays_holds : Rows.SourcePlaysSaid :=
  OpenClaim.holds_of_wide 3 Try.f3 rfl rfl rfl rfl rfl rfl rfl ⟨rfl, rfl, rfl, rfl, rfl⟩ rfl rfl rfl rfl rfl (by kernel_rfl) Try.func3 (by kernel_rfl)
    (of_decide_eq_true (by kernel_rfl)) (by unfold Func.isWrapper; first | (rw [if_pos (by decide +kernel)]; kernel_rfl) | (rw [if_neg (by decide +kernel)]; exact ⟨rfl, rfl⟩))
    (fun os started H enc _ => plays_lifted os started H enc)

#print axioms plays_holds
end Go.Proofs.Ytbpcfjhnkjobaaa
