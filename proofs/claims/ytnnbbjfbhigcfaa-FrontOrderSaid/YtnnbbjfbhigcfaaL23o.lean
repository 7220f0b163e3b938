/- PROVED: the law FrontOrder returns true, whatever the number of channels and the marks: marks of channels hang on their own channel's alone; no condition. -/
import Derived.Test.YtnnbbjfbhigcfaaP23e
import Derived.Test.YtnnbbjfbhigcfaaA23
namespace Go.Proofs.Ytnnbbjfbhigcfaa
open Go.ChangeShapes Go.WideShapes Go.ChangeAt Go.RowKit Ab

theorem law4 : lawB Try.prog Try.f4 = true := by kernel_rfl

theorem order_lifted (os : Os) (started : os.Started) (H : Type) (enc : TypeId × Value → H) :
    ReturnsInHanded {} Try.checked os 4 .any (Rows.frontOrderSpec.pre6 enc Try.prog Try.f4 Rows.frontOrderRow.domain false) (Rows.frontOrderSpec.post enc Try.prog Try.f4 false true false false) := by
  refine returnsInHanded_of_change (C := Try.checked) Try.own started (by kernel_rfl) Try.func4
    (ChangeSpec.witness6 (enc := enc) (C := Try.checked) false ⟨#[], #[.int .u8 0, .slice none 0 0], []⟩ 8 (by kernel_rfl) (by kernel_rfl) (by kernel_rfl) (by kernel_rfl)) ?_
  intro W₀ base args ds gs before hval hW _ _
  have hW' := hW
  obtain ⟨p, q, hA, _⟩ := hW
  rw [show (Try.f4).params.toList = [5, 22] from by rw [Try.params4]] at hA
  obtain ⟨v1, v2, d1, d2, p1, p2, rfl, rfl, _, k1, k2⟩ := trodAll_two hA
  obtain ⟨b, rfl, hb⟩ := arg_cell (k := .int .u8) (by kernel_rfl) (by kernel_rfl) (by kernel_rfl) (hval 0 5 v1 (by rw [Try.params4]; rfl) rfl) k1
  have o2 := arg_cell (k := .slice 31) (by kernel_rfl) (by kernel_rfl) (by kernel_rfl) (hval 1 22 v2 (by rw [Try.params4]; rfl) rfl) k2
  have T := tb_tabs o2
  have hE := tb_tab W₀ v2
  have H0 := T.start' hE
  have ha : RelL (tabF (tbOf W₀ v2)) (tabR (val2 W₀ v2 4 3)) (fun _ => none) [.int .u8 b, gV 0 0 v2] #[.int .u8 b, v2].toList := .cons (.int _ _) (.cons (T.rel' hE 0 0) .nil)
  exact law_end' Try.laidOut law4 rfl hW' rfl H0 ha (order_gives (fun v hv => inK_of (gL_le T (t := 0) (p := 0) (j := 0) rfl v hv)) (tb_okV o2) (inK_of hb))

theorem order_holds : Rows.FrontOrderSaid :=
  OpenClaim.holds_of_wide 4 Try.f4 rfl rfl rfl rfl rfl rfl rfl ⟨rfl, rfl, rfl, rfl, rfl⟩ rfl rfl rfl rfl rfl (by kernel_rfl) Try.func4 (by kernel_rfl)
    (of_decide_eq_true (by kernel_rfl)) (by unfold Func.isWrapper; first | (rw [if_pos (by decide +kernel)]; kernel_rfl) | (rw [if_neg (by decide +kernel)]; exact ⟨rfl, rfl⟩))
    (fun os started H enc _ => order_lifted os started H enc)

#print axioms order_holds
end Go.Proofs.Ytnnbbjfbhigcfaa
