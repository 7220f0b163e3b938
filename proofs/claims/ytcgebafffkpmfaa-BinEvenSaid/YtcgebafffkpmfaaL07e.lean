/- PROVED: the law BinEven returns true, whatever the key and the numbers: of 64 keys each bin has from five to eleven, and workers have bins evenly, at the beginning and by turns; no condition. -/
import Derived.Test.YtcgebafffkpmfaaP07c
namespace Go.Proofs.Ytcgebafffkpmfaa
open Go.ChangeShapes Go.WideShapes Go.ChangeAt Go.RowKit Ab

theorem law3 : lawB Try.prog Try.f3 = true := by kernel_rfl

theorem even_lifted (os : Os) (started : os.Started) (H : Type) (enc : TypeId × Value → H) :
    ReturnsInHanded {} Try.checked os 3 .any (Rows.binEvenSpec.pre6 enc Try.prog Try.f3 Rows.binEvenRow.domain false) (Rows.binEvenSpec.post enc Try.prog Try.f3 false true false false) := by
  refine returnsInHanded_of_change (C := Try.checked) Try.own started (by kernel_rfl) Try.func3
    (ChangeSpec.witness6 (enc := enc) (C := Try.checked) false ⟨#[], #[.int .u32 0, .int .u8 0, .int .u8 0], []⟩ 8 (by kernel_rfl) (by kernel_rfl) (by kernel_rfl) (by kernel_rfl)) ?_
  intro W₀ base args ds gs before hval hW _ _
  have hW' := hW
  obtain ⟨p, q, hA, _⟩ := hW
  rw [show (Try.f3).params.toList = [22, 5, 5] from by rw [Try.params3]] at hA
  obtain ⟨v1, v2, v3, d1, d2, d3, p1, p2, p3, rfl, rfl, _, k1, k2, k3⟩ := trodAll_three hA
  obtain ⟨a, rfl, ha⟩ := arg_cell (k := .int .u32) (by kernel_rfl) (by kernel_rfl) (by kernel_rfl) (hval 0 22 v1 (by rw [Try.params3]; rfl) rfl) k1
  obtain ⟨b, rfl, hb⟩ := arg_cell (k := .int .u8) (by kernel_rfl) (by kernel_rfl) (by kernel_rfl) (hval 1 5 v2 (by rw [Try.params3]; rfl) rfl) k2
  obtain ⟨c, rfl, hc⟩ := arg_cell (k := .int .u8) (by kernel_rfl) (by kernel_rfl) (by kernel_rfl) (hval 2 5 v3 (by rw [Try.params3]; rfl) rfl) k3
  have hr : RelL noSeg noRa (fun _ => none) [.int .u32 a, .int .u8 b, .int .u8 c] #[.int .u32 a, .int .u8 b, .int .u8 c].toList := .cons (.int _ _) (.cons (.int _ _) (.cons (.int _ _) .nil))
  exact law_end' Try.laidOut law3 rfl hW' rfl (WRel.start0 W₀) hr (even_gives (inK_of ha) (inK_of hb) (inK_of hc))

theorem even_holds : Rows.BinEvenSaid :=
  OpenClaim.holds_of_wide 3 Try.f3 rfl rfl rfl rfl rfl rfl rfl ⟨rfl, rfl, rfl, rfl, rfl⟩ rfl rfl rfl rfl rfl (by kernel_rfl) Try.func3 (by kernel_rfl)
    (of_decide_eq_true (by kernel_rfl)) (by unfold Func.isWrapper; first | (rw [if_pos (by decide +kernel)]; kernel_rfl) | (rw [if_neg (by decide +kernel)]; exact ⟨rfl, rfl⟩))
    (fun os started H enc _ => even_lifted os started H enc)

#print axioms even_holds
end Go.Proofs.Ytcgebafffkpmfaa
