/- PROVED: the law OperChecks returns true, whatever the operator and the draft: whether an operator may be, and its class, are as the document says; no condition. -/
import Derived.Test.YtbfebjmmpiffpaaP04c
namespace Go.Proofs.Ytbfebjmmpiffpaa
open Go.ChangeShapes Go.WideShapes Go.ChangeAt Go.RowKit Ab

theorem law3 : lawB Try.prog Try.f3 = true := by kernel_rfl

theorem checks_lifted (os : Os) (started : os.Started) (H : Type) (enc : TypeId × Value → H) :
    ReturnsInHanded {} Try.checked os 3 .any (Rows.operChecksSpec.pre6 enc Try.prog Try.f3 Rows.operChecksRow.domain false) (Rows.operChecksSpec.post enc Try.prog Try.f3 false true false false) := by
  refine returnsInHanded_of_change (C := Try.checked) Try.own started (by kernel_rfl) Try.func3
    (ChangeSpec.witness6 (enc := enc) (C := Try.checked) false ⟨#[], #[.agg #[.int .i64 0, .int .i64 0, .int .i64 0, .int .i64 0], .agg #[.int .u8 0, .int .i64 0, .int .i64 0, .int .u8 0, .bool false]], []⟩ 8 (by kernel_rfl) (by kernel_rfl) (by kernel_rfl) (by kernel_rfl)) ?_
  intro W₀ base args ds gs before hval hW _ _
  have hW' := hW
  obtain ⟨p, q, hA, _⟩ := hW
  rw [show (Try.f3).params.toList = [23, 25] from by rw [Try.params3]] at hA
  obtain ⟨v1, v2, d1, d2, p1, p2, rfl, rfl, _, k1, k2⟩ := trodAll_two hA
  obtain ⟨cs1, rfl, o1⟩ := arg_row (ks := [.int .i64, .int .i64, .int .i64, .int .i64]) (by kernel_rfl) (by kernel_rfl) (hval 0 23 v1 (by rw [Try.params3]; rfl) rfl) k1
  obtain ⟨cs2, rfl, o2⟩ := arg_row (ks := [.int .u8, .int .i64, .int .i64, .int .u8, .bool]) (by kernel_rfl) (by kernel_rfl) (hval 1 25 v2 (by rw [Try.params3]; rfl) rfl) k2
  cases o1 with | cons g1 o1 =>
  cases o1 with | cons g2 o1 =>
  cases o1 with | cons g3 o1 =>
  cases o1 with | cons g4 o1 =>
  cases o1
  cases o2 with | cons h1 o2 =>
  cases o2 with | cons h2 o2 =>
  cases o2 with | cons h3 o2 =>
  cases o2 with | cons h4 o2 =>
  cases o2 with | cons h5 o2 =>
  cases o2
  obtain ⟨k, rfl, _⟩ := g1
  obtain ⟨a, rfl, _⟩ := g2
  obtain ⟨b, rfl, _⟩ := g3
  obtain ⟨g, rfl, _⟩ := g4
  obtain ⟨w, rfl, _⟩ := h1
  obtain ⟨c, rfl, _⟩ := h2
  obtain ⟨d, rfl, _⟩ := h3
  obtain ⟨e, rfl, _⟩ := h4
  obtain ⟨odd, rfl⟩ := h5
  have hr : RelL noSeg noRa (fun _ => none) [Op4.v ⟨k, a, b, g⟩, Dr.v ⟨w, c, d, e, odd⟩] #[.agg #[.int .i64 k, .int .i64 a, .int .i64 b, .int .i64 g], .agg #[.int .u8 w, .int .i64 c, .int .i64 d, .int .u8 e, .bool odd]].toList :=
    .cons (.agg (.cons (.int _ _) (.cons (.int _ _) (.cons (.int _ _) (.cons (.int _ _) .nil))))) (.cons (.agg (.cons (.int _ _) (.cons (.int _ _) (.cons (.int _ _) (.cons (.int _ _) (.cons (.bool _) .nil)))))) .nil)
  exact law_end' Try.laidOut law3 rfl hW' rfl (WRel.start0 W₀) hr (checks_gives noE_plain ⟨k, a, b, g⟩ ⟨w, c, d, e, odd⟩)

theorem checks_holds : Rows.OperChecksSaid :=
  OpenClaim.holds_of_wide 3 Try.f3 rfl rfl rfl rfl rfl rfl rfl ⟨rfl, rfl, rfl, rfl, rfl⟩ rfl rfl rfl rfl rfl (by kernel_rfl) Try.func3 (by kernel_rfl)
    (of_decide_eq_true (by kernel_rfl)) (by unfold Func.isWrapper; first | (rw [if_pos (by decide +kernel)]; kernel_rfl) | (rw [if_neg (by decide +kernel)]; exact ⟨rfl, rfl⟩))
    (fun os started H enc _ => checks_lifted os started H enc)

#print axioms checks_holds
end Go.Proofs.Ytbfebjmmpiffpaa
