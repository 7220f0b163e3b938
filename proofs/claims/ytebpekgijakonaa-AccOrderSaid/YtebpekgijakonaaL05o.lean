/- PROVED: the law AccOrder returns true, whatever the values and the choices: in whatever order and grouping values are merged, the aggregate is the same, and the sum is theirs; no condition. -/
import Derived.Test.YtebpekgijakonaaP05m
namespace Go.Proofs.Ytebpekgijakonaa
open Go.ChangeShapes Go.WideShapes Go.ChangeAt Go.RowKit Ab

theorem law5 : lawB Try.prog Try.f5 = true := by kernel_rfl

def valO (v1 v2 : Value) (t _ : Nat) : Value := match t with
  | 0 => v1
  | _ => v2
def ktO (t : Nat) : List CK := match t with
  | 0 => [.int .i64]
  | _ => [.int .u8]

theorem order_lifted (os : Os) (started : os.Started) (H : Type) (enc : TypeId × Value → H) :
    ReturnsInHanded {} Try.checked os 5 .any (Rows.accOrderSpec.pre6 enc Try.prog Try.f5 Rows.accOrderRow.domain false) (Rows.accOrderSpec.post enc Try.prog Try.f5 false true false false) := by
  refine returnsInHanded_of_change (C := Try.checked) Try.own started (by kernel_rfl) Try.func5
    (ChangeSpec.witness6 (enc := enc) (C := Try.checked) false ⟨#[], #[.slice none 0 0, .slice none 0 0], []⟩ 8 (by kernel_rfl) (by kernel_rfl) (by kernel_rfl) (by kernel_rfl)) ?_
  intro W₀ base args ds gs before hval hW _ _
  have hW' := hW
  obtain ⟨p, q, hA, _⟩ := hW
  rw [show (Try.f5).params.toList = [31, 34] from by rw [Try.params5]] at hA
  obtain ⟨v1, v2, d1, d2, p1, p2, rfl, rfl, _, k1, k2⟩ := trodAll_two hA
  have o1 := arg_cell (k := .slice 2) (by kernel_rfl) (by kernel_rfl) (by kernel_rfl) (hval 0 31 v1 (by rw [Try.params5]; rfl) rfl) k1
  have o2 := arg_cell (k := .slice 5) (by kernel_rfl) (by kernel_rfl) (by kernel_rfl) (hval 1 34 v2 (by rw [Try.params5]; rfl) rfl) k2
  have T : Tabs enc Try.prog W₀ (valO v1 v2) (fun t => match t with
      | 0 => 2
      | _ => 5) ktO (fun _ _ => 0) := by
    refine ⟨fun t => ?_, fun t p => ?_, fun t p i j e _ hj => ?_⟩
    · cases t with
      | zero => exact ⟨by kernel_rfl, by kernel_rfl, Nat.succ_pos _⟩
      | succ t => exact ⟨by kernel_rfl, by kernel_rfl, Nat.succ_pos _⟩
    · cases t with
      | zero => exact o1
      | succ t => exact o2
    · cases t <;> cases j <;> simp [ktO] at hj
  have hE : tabE W₀ (valO v1 v2) ktO (fun _ _ => 0) = tabO (ints W₀ v1 1 0) (ints W₀ v2 1 0) := by
    funext t p
    cases t <;> (simp only [tabE, segK, tabO, ints_length, valO, ktO]; rfl)
  have hxs : ∀ x ∈ ints W₀ v1 1 0, in64 x := fun x hx => inK_of (gL_le T (t := 0) (p := 0) (j := 0) rfl x hx)
  have hch : ∀ x ∈ ints W₀ v2 1 0, inK .u8 x := fun x hx => inK_of (gL_le T (t := 1) (p := 0) (j := 0) rfl x hx)
  have H0 := T.start' hE
  have ha : RelL (tabO (ints W₀ v1 1 0) (ints W₀ v2 1 0)) (tabR (valO v1 v2)) (fun _ => none) [gV 0 0 v1, gV 1 0 v2] #[v1, v2].toList := .cons (T.rel' hE 0 0) (.cons (T.rel' hE 1 0) .nil)
  have hC : ChO (gV 1 0 v2) (ints W₀ v2 1 0) := by
    rcases o2 with rfl | ⟨a, len, cap, fuel, rfl, _⟩
    · exact .inl rfl
    · exact .inr (by rw [ints_length]; rfl)
  have key : Gives Try.prog (tabO (ints W₀ v1 1 0) (ints W₀ v2 1 0)) (tabR (valO v1 v2)) W₀.heap.size 0 5 [gV 0 0 v1, gV 1 0 v2] [] fun v _ => v = .bool true := by
    rcases o1 with rfl | ⟨a, len, cap, fuel, rfl, _⟩
    · exact order_none hC (.inl rfl)
    · have hl : (ints W₀ (.slice (some a) len cap) 1 0).length = len := by rw [ints_length]; rfl
      rcases Nat.eq_zero_or_pos len with h0 | h0
      · subst h0; exact order_none hC (.inr rfl)
      · have := order_gives (ra := tabR (valO (.slice (some a) len cap) v2)) (base := W₀.heap.size) hC hch hxs (by omega)
        rw [hl] at this
        exact this
  exact law_end' Try.laidOut law5 rfl hW' rfl H0 ha key

theorem order_holds : Rows.AccOrderSaid :=
  OpenClaim.holds_of_wide 5 Try.f5 rfl rfl rfl rfl rfl rfl rfl ⟨rfl, rfl, rfl, rfl, rfl⟩ rfl rfl rfl rfl rfl (by kernel_rfl) Try.func5 (by kernel_rfl)
    (of_decide_eq_true (by kernel_rfl)) (by unfold Func.isWrapper; first | (rw [if_pos (by decide +kernel)]; kernel_rfl) | (rw [if_neg (by decide +kernel)]; exact ⟨rfl, rfl⟩))
    (fun os started H enc _ => order_lifted os started H enc)

#print axioms order_holds
end Go.Proofs.Ytebpekgijakonaa
