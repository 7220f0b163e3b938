/- PROVED: the law SendOrder returns true, whatever the capacity and the choices: the other end takes a beginning of all that was pushed, in order, each once; no condition. -/
import Derived.Test.YtoahbijmemgghaaP20t
namespace Go.Proofs.Ytoahbijmemgghaa
open Go.ChangeShapes Go.WideShapes Go.ChangeAt Go.RowKit Ab

theorem law4 : lawB Try.prog Try.f4 = true := by kernel_rfl

def ktC : List CK := [.int .u8, .int .u8]

theorem order_lifted (os : Go.Os) (started : os.Started) (H : Type) (enc : TypeId × Value → H) :
    ReturnsInHanded {} Try.checked os 4 .any (Rows.sendOrderSpec.pre6 enc Try.prog Try.f4 Rows.sendOrderRow.domain false) (Rows.sendOrderSpec.post enc Try.prog Try.f4 false true false false) := by
  refine returnsInHanded_of_change (C := Try.checked) Try.own started (by kernel_rfl) Try.func4
    (ChangeSpec.witness6 (enc := enc) (C := Try.checked) false ⟨#[], #[.int .u8 0, .slice none 0 0], []⟩ 8 (by kernel_rfl) (by kernel_rfl) (by kernel_rfl) (by kernel_rfl)) ?_
  intro W₀ base args ds gs before hval hW _ _
  have hW' := hW
  obtain ⟨p, q, hA, _⟩ := hW
  rw [show (Try.f4).params.toList = [5, 59] from by rw [Try.params4]] at hA
  obtain ⟨v1, v2, d1, d2, p1, p2, rfl, rfl, _, k1, k2⟩ := trodAll_two hA
  have o1 := arg_cell (k := .int .u8) (by kernel_rfl) (by kernel_rfl) (by kernel_rfl) (hval 0 5 v1 (by rw [Try.params4]; rfl) rfl) k1
  have o2 := arg_cell (k := .slice 67) (by kernel_rfl) (by kernel_rfl) (by kernel_rfl) (hval 1 59 v2 (by rw [Try.params4]; rfl) rfl) k2
  obtain ⟨s, rfl, w1⟩ := o1
  have T : Tabs enc Try.prog W₀ (fun _ _ => v2) (fun _ => 67) (fun _ => ktC) (fun _ _ => 0) :=
    ⟨fun _ => ⟨by kernel_rfl, by kernel_rfl, Nat.succ_pos _⟩, fun _ _ => o2, fun t p i j e _ hj => by rcases j with _ | _ | j <;> simp [ktC] at hj⟩
  have hE : tabE W₀ (fun _ _ => v2) (fun _ => ktC) (fun _ _ => 0) = tabC (ints W₀ v2 2 0) (ints W₀ v2 2 1) := by
    funext t p
    simp only [tabE, segK, tabC, ints_length]; rfl
  have ha8 : ∀ x ∈ ints W₀ v2 2 0, 0 ≤ x ∧ x < 256 := fun x hx => inK_of (gL_le T (t := 0) (p := 0) (j := 0) rfl x hx)
  have hb8 : ∀ x ∈ ints W₀ v2 2 1, 0 ≤ x ∧ x < 256 := fun x hx => inK_of (gL_le T (t := 0) (p := 0) (j := 1) rfl x hx)
  have H0 := T.start' hE
  have ha : RelL (tabC (ints W₀ v2 2 0) (ints W₀ v2 2 1)) (tabR fun _ _ => v2) (fun _ => none) [.int .u8 s, gV 0 0 v2] #[.int .u8 s, v2].toList :=
    .cons (.int _ _) (.cons (T.rel' hE 0 0) .nil)
  have hV : okV (ints W₀ v2 2 0) (gV 0 0 v2) = true := by
    rcases o2 with rfl | ⟨a, len, cap, fuel, rfl, _⟩
    · rfl
    · show decide (_ = _) = true
      rw [ints_length]; exact decide_eq_true rfl
  exact law_end' Try.laidOut law4 rfl hW' rfl H0 ha (order_gives (by rw [ints_length, ints_length]) ha8 hb8 (inK_of w1) hV)

theorem order_holds : Rows.SendOrderSaid :=
  OpenClaim.holds_of_wide 4 Try.f4 rfl rfl rfl rfl rfl rfl rfl ⟨rfl, rfl, rfl, rfl, rfl⟩ rfl rfl rfl rfl rfl (by kernel_rfl) Try.func4 (by kernel_rfl)
    (of_decide_eq_true (by kernel_rfl)) (by unfold Func.isWrapper; first | (rw [if_pos (by decide +kernel)]; kernel_rfl) | (rw [if_neg (by decide +kernel)]; exact ⟨rfl, rfl⟩))
    (fun os started H enc _ => order_lifted os started H enc)

#print axioms order_holds
end Go.Proofs.Ytoahbijmemgghaa
