/- PROVED: the law SourceSeeks returns true, whatever the drafts, the lateness and the places: behind a seek a source reads just what it read from there on at first; no condition. -/
import Derived.Test.YtbpcfjhnkjobaaaP14t
import Derived.Test.YtbpcfjhnkjobaaaA14
namespace Go.Proofs.Ytbpcfjhnkjobaaa
open Go.ChangeShapes Go.WideShapes Go.ChangeAt Go.RowKit Ab

theorem law5 : lawB Try.prog Try.f5 = true := by kernel_rfl

theorem seeks_lifted (os : Os) (started : os.Started) (H : Type) (enc : TypeId × Value → H) :
    ReturnsInHanded {} Try.checked os 5 .any (Rows.sourceSeeksSpec.pre6 enc Try.prog Try.f5 Rows.sourceSeeksRow.domain false) (Rows.sourceSeeksSpec.post enc Try.prog Try.f5 false true false false) := by
  refine returnsInHanded_of_change (C := Try.checked) Try.own started (by kernel_rfl) Try.func5
    (ChangeSpec.witness6 (enc := enc) (C := Try.checked) false ⟨#[], #[.slice none 0 0, .int .u8 0, .agg #[.int .u16 0, .int .u16 0]], []⟩ 8 (by kernel_rfl) (by kernel_rfl) (by kernel_rfl) (by kernel_rfl)) ?_
  intro W₀ base args ds gs before hval hW _ _
  have hW' := hW
  obtain ⟨p, q, hA, _⟩ := hW
  rw [show (Try.f5).params.toList = [22, 5, 48] from by rw [Try.params5]] at hA
  obtain ⟨v1, v2, v3, d1, d2, d3, q1, q2, q3, rfl, rfl, _, k1, k2, k3⟩ := trodAll_three hA
  have o1 := arg_cell (k := .slice 55) (by kernel_rfl) (by kernel_rfl) (by kernel_rfl) (hval 0 22 v1 (by rw [Try.params5]; rfl) rfl) k1
  obtain ⟨f0, rfl, w0⟩ := arg_cell (k := .int .u8) (by kernel_rfl) (by kernel_rfl) (by kernel_rfl) (hval 1 5 v2 (by rw [Try.params5]; rfl) rfl) k2
  obtain ⟨cs3, rfl, o3⟩ := arg_row (ks := [.int .u16, .int .u16]) (by kernel_rfl) (by kernel_rfl) (hval 2 48 v3 (by rw [Try.params5]; rfl) rfl) k3
  cases o3 with | cons g4 o3 =>
  cases o3 with | cons g5 o3 =>
  cases o3
  obtain ⟨f1, rfl, w4⟩ := g4
  obtain ⟨f2, rfl, w5⟩ := g5
  have T := tb_tabs (v2 := .slice none 0 0) o1 (.inl rfl)
  have hE := tb_tab W₀ v1 (.slice none 0 0)
  have H0 := T.start' hE
  have ha : RelL (tabT (tbOf W₀ v1 (.slice none 0 0))) (tabR (val14 v1 (.slice none 0 0))) (fun _ => none) [gV 0 0 v1, .int .u8 f0, .agg [.int .u16 f1, .int .u16 f2]] #[v1, .int .u8 f0, .agg #[.int .u16 f1, .int .u16 f2]].toList :=
    .cons (T.rel' hE 0 0) (.cons (.int _ _) (.cons (.agg (.cons (.int _ _) (.cons (.int _ _) .nil))) .nil))
  exact law_end' Try.laidOut law5 rfl hW' rfl H0 ha (seeks_gives (tb_okV o1) (inK_of w0) (inK_of w4) (inK_of w5))

theorem seeks_holds : Rows.SourceSeeksSaid :=
  OpenClaim.holds_of_wide 5 Try.f5 rfl rfl rfl rfl rfl rfl rfl ⟨rfl, rfl, rfl, rfl, rfl⟩ rfl rfl rfl rfl rfl (by kernel_rfl) Try.func5 (by kernel_rfl)
    (of_decide_eq_true (by kernel_rfl)) (by unfold Func.isWrapper; first | (rw [if_pos (by decide +kernel)]; kernel_rfl) | (rw [if_neg (by decide +kernel)]; exact ⟨rfl, rfl⟩))
    (fun os started H enc _ => seeks_lifted os started H enc)

#print axioms seeks_holds
end Go.Proofs.Ytbpcfjhnkjobaaa
