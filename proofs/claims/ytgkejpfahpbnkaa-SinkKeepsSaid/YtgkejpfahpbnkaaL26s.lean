/- PROVED: the law SinkKeeps returns true, whatever the epochs' length, the number of workers and the choices: what is sealed, one behind the other, and what is pending, are together what was taken; epochs are sealed without a gap, each record with its own, and in the end all are sealed; no condition. -/
import Derived.Test.YtgkejpfahpbnkaaG07

namespace Go.Proofs.Ytgkejpfahpbnkaa
open Go.ChangeShapes Go.WideShapes Go.ChangeAt Go.RowKit Ab
theorem law3 : lawB Try.prog Try.f3 = true := by kernel_rfl
def ktC : List CK := [.int .u8, .int .u8, .int .u8]
set_option maxRecDepth 20000 in
theorem keeps_lifted (os : Os) (started : os.Started) (H : Type) (enc : TypeId × Value → H) :
    ReturnsInHanded {} Try.checked os 3 .any (Rows.sinkKeepsSpec.pre6 enc Try.prog Try.f3 Rows.sinkKeepsRow.domain false) (Rows.sinkKeepsSpec.post enc Try.prog Try.f3 false true false false) := by
  refine returnsInHanded_of_change (C := Try.checked) Try.own started (by kernel_rfl) Try.func3
    (ChangeSpec.witness6 (enc := enc) (C := Try.checked) false ⟨#[], #[.int .u8 0, .int .u8 0, .slice none 0 0], []⟩ 8 (by kernel_rfl) (by kernel_rfl) (by kernel_rfl) (by kernel_rfl)) ?_
  intro W₀ base args ds gs before hval hW _ _
  have hW' := hW
  obtain ⟨p, q, hA, _⟩ := hW
  rw [show (Try.f3).params.toList = [5, 5, 22] from by rw [Try.params3]] at hA
  obtain ⟨v1, v2, v3, d1, d2, d3, p1, p2, p3, rfl, rfl, _, k1, k2, k3⟩ := trodAll_three hA
  have e0 : Try.f3.params[0]? = some 5 := by rw [Try.params3]; rfl
  have e1 : Try.f3.params[1]? = some 5 := by rw [Try.params3]; rfl
  have e2 : Try.f3.params[2]? = some 22 := by rw [Try.params3]; rfl
  obtain ⟨a, rfl, ha⟩ := arg_cell (k := .int .u8) (by kernel_rfl) (by kernel_rfl) (by kernel_rfl) (hval 0 5 v1 e0 rfl) k1
  obtain ⟨b, rfl, hb⟩ := arg_cell (k := .int .u8) (by kernel_rfl) (by kernel_rfl) (by kernel_rfl) (hval 1 5 v2 e1 rfl) k2
  have o3 := arg_cell (k := .slice 32) (by kernel_rfl) (by kernel_rfl) (by kernel_rfl) (hval 2 22 v3 e2 rfl) k3
  have T : Tabs enc Try.prog W₀ (fun _ _ => v3) (fun _ => 32) (fun _ => ktC) (fun _ _ => 0) :=
    ⟨fun _ => ⟨by kernel_rfl, by kernel_rfl, Nat.succ_pos _⟩, fun _ _ => o3, fun t p i j e _ hj => by rcases j with _ | _ | _ | j <;> simp [ktC] at hj⟩
  have hE : tabE W₀ (fun _ _ => v3) (fun _ => ktC) (fun _ _ => 0) = tabC (ints W₀ v3 3 0) (ints W₀ v3 3 1) (ints W₀ v3 3 2) := by
    funext t p
    simp only [tabE, segK, tabC, ints_length]; rfl
  have in8 : ∀ {x : Int}, inK .u8 x → 0 ≤ x ∧ x ≤ 255 := fun {x} h => by
    have : 0 ≤ x ∧ x < 256 := h
    omega
  have hT : Tc (ints W₀ v3 3 0) (ints W₀ v3 3 1) (ints W₀ v3 3 2) :=
    ⟨by rw [ints_length, ints_length], by rw [ints_length, ints_length], fun x hx => in8 (inK_of (gL_le T (t := 0) (p := 0) (j := 1) rfl x hx)), fun x hx => in8 (inK_of (gL_le T (t := 0) (p := 0) (j := 2) rfl x hx))⟩
  have H0 := T.start' hE
  have hr : RelL (tabC (ints W₀ v3 3 0) (ints W₀ v3 3 1) (ints W₀ v3 3 2)) (tabR fun _ _ => v3) (fun _ => none) [.int .u8 a, .int .u8 b, gV 0 0 v3] #[.int .u8 a, .int .u8 b, v3].toList :=
    .cons (.int _ _) (.cons (.int _ _) (.cons (T.rel' hE 0 0) .nil))
  have hV : ∃ nl, gV 0 0 v3 = chV nl (ints W₀ v3 3 0).length := by
    rcases o3 with rfl | ⟨ad, len, cap, fuel, rfl, _⟩
    · exact ⟨true, rfl⟩
    · refine ⟨false, ?_⟩
      rw [ints_length]; rfl
  obtain ⟨nl, hV⟩ := hV
  rw [hV] at hr
  exact law_end' Try.laidOut law3 rfl hW' rfl H0 hr (keeps_gives hT (in8 (inK_of ha)) (in8 (inK_of hb)) nl)
theorem keeps_holds : Rows.SinkKeepsSaid :=
  OpenClaim.holds_of_wide 3 Try.f3 rfl rfl rfl rfl rfl rfl rfl ⟨rfl, rfl, rfl, rfl, rfl⟩ rfl rfl rfl rfl rfl (by kernel_rfl) Try.func3 (by kernel_rfl)
    (of_decide_eq_true (by kernel_rfl)) (by unfold Func.isWrapper; first | (rw [if_pos (by decide +kernel)]; kernel_rfl) | (rw [if_neg (by decide +kernel)]; exact ⟨rfl, rfl⟩))
    (fun os started H enc _ => keeps_lifted os started H enc)
#print axioms keeps_holds
end Go.Proofs.Ytgkejpfahpbnkaa
