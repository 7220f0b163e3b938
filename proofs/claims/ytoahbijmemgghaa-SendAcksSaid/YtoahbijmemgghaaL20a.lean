/- PROVED: the law SendAcks returns true, whatever the capacity, the messages, and the two answers: in whatever order they come, the sender is the same then; no condition. -/
import Derived.Test.YtoahbijmemgghaaP20c
namespace Go.Proofs.Ytoahbijmemgghaa
open Go.ChangeShapes Go.WideShapes Go.ChangeAt Go.RowKit Ab

theorem law6 : lawB Try.prog Try.f6 = true := by kernel_rfl

theorem noE_plain : Plain noSeg := by
  intro t p j v h
  rw [noSeg_cell] at h; cases h

theorem u8_of {v : Int} (h : (Lit.int .u8 v).wf = true) : 0 ≤ v ∧ v < 256 := inK_of h

theorem acks_lifted (os : Os) (started : os.Started) (H : Type) (enc : TypeId × Value → H) :
    ReturnsInHanded {} Try.checked os 6 .any (Rows.sendAcksSpec.pre6 enc Try.prog Try.f6 Rows.sendAcksRow.domain false) (Rows.sendAcksSpec.post enc Try.prog Try.f6 false true false false) := by
  refine returnsInHanded_of_change (C := Try.checked) Try.own started (by kernel_rfl) Try.func6
    (ChangeSpec.witness6 (enc := enc) (C := Try.checked) false ⟨#[], #[.int .u8 0, .int .u8 0, .agg #[.int .u8 0, .int .u8 0, .int .u8 0, .int .u8 0]], []⟩ 8 (by kernel_rfl) (by kernel_rfl) (by kernel_rfl) (by kernel_rfl)) ?_
  intro W₀ base args ds gs before hval hW _ _
  have hW' := hW
  obtain ⟨p, q, hA, _⟩ := hW
  rw [show (Try.f6).params.toList = [5, 5, 74] from by rw [Try.params6]] at hA
  obtain ⟨v1, v2, v3, d1, d2, d3, p1, p2, p3, rfl, rfl, _, k1, k2, k3⟩ := trodAll_three hA
  have o1 := arg_cell (k := .int .u8) (by kernel_rfl) (by kernel_rfl) (by kernel_rfl) (hval 0 5 v1 (by rw [Try.params6]; rfl) rfl) k1
  have o2 := arg_cell (k := .int .u8) (by kernel_rfl) (by kernel_rfl) (by kernel_rfl) (hval 1 5 v2 (by rw [Try.params6]; rfl) rfl) k2
  obtain ⟨cs, rfl, o3⟩ := arg_row (ks := [.int .u8, .int .u8, .int .u8, .int .u8]) (by kernel_rfl) (by kernel_rfl) (hval 2 74 v3 (by rw [Try.params6]; rfl) rfl) k3
  cases o3 with | cons g1 o3 =>
  cases o3 with | cons g2 o3 =>
  cases o3 with | cons g3 o3 =>
  cases o3 with | cons g4 o3 =>
  cases o3
  obtain ⟨s, rfl, w1⟩ := o1
  obtain ⟨p, rfl, w2⟩ := o2
  obtain ⟨a, rfl, w3⟩ := g1
  obtain ⟨b, rfl, w4⟩ := g2
  obtain ⟨c, rfl, w5⟩ := g3
  obtain ⟨d, rfl, w6⟩ := g4
  have ha : RelL noSeg noRa (fun _ => none) [.int .u8 s, .int .u8 p, .agg [.int .u8 a, .int .u8 b, .int .u8 c, .int .u8 d]] #[.int .u8 s, .int .u8 p, .agg #[.int .u8 a, .int .u8 b, .int .u8 c, .int .u8 d]].toList :=
    .cons (.int _ _) (.cons (.int _ _) (.cons (.agg (.cons (.int _ _) (.cons (.int _ _) (.cons (.int _ _) (.cons (.int _ _) .nil))))) .nil))
  exact law_end' Try.laidOut law6 rfl hW' rfl (WRel.start0 W₀) ha (acks_gives noE_plain (u8_of w1) (u8_of w2) (u8_of w3) (u8_of w4) (u8_of w5) (u8_of w6))

theorem acks_holds : Rows.SendAcksSaid :=
  OpenClaim.holds_of_wide 6 Try.f6 rfl rfl rfl rfl rfl rfl rfl ⟨rfl, rfl, rfl, rfl, rfl⟩ rfl rfl rfl rfl rfl (by kernel_rfl) Try.func6 (by kernel_rfl)
    (of_decide_eq_true (by kernel_rfl)) (by unfold Func.isWrapper; first | (rw [if_pos (by decide +kernel)]; kernel_rfl) | (rw [if_neg (by decide +kernel)]; exact ⟨rfl, rfl⟩))
    (fun os started H enc _ => acks_lifted os started H enc)

#print axioms acks_holds
end Go.Proofs.Ytoahbijmemgghaa
