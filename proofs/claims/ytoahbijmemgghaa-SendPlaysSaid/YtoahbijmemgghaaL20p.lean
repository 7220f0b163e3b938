/- PROVED: the law SendPlays returns true, whatever the capacity and the acts: the program's sender is the document's; no condition. -/
import Derived.Test.YtoahbijmemgghaaP20q
namespace Go.Proofs.Ytoahbijmemgghaa
open Go.ChangeShapes Go.WideShapes Go.ChangeAt Go.RowKit Ab

theorem law3 : lawB Try.prog Try.f3 = true := by kernel_rfl

def ktS : List CK := [.int .u8, .int .i8, .int .i8, .int .u64]

theorem plays_lifted (os : Os) (started : os.Started) (H : Type) (enc : TypeId × Value → H) :
    ReturnsInHanded {} Try.checked os 3 .any (Rows.sendPlaysSpec.pre6 enc Try.prog Try.f3 Rows.sendPlaysRow.domain false) (Rows.sendPlaysSpec.post enc Try.prog Try.f3 false true false false) := by
  refine returnsInHanded_of_change (C := Try.checked) Try.own started (by kernel_rfl) Try.func3
    (ChangeSpec.witness6 (enc := enc) (C := Try.checked) false ⟨#[], #[.int .i64 0, .int .u8 0, .slice none 0 0], []⟩ 8 (by kernel_rfl) (by kernel_rfl) (by kernel_rfl) (by kernel_rfl)) ?_
  intro W₀ base args ds gs before hval hW _ _
  have hW' := hW
  obtain ⟨p, q, hA, _⟩ := hW
  rw [show (Try.f3).params.toList = [3, 5, 22] from by rw [Try.params3]] at hA
  obtain ⟨v1, v2, v3, d1, d2, d3, p1, p2, p3, rfl, rfl, _, k1, k2, k3⟩ := trodAll_three hA
  have o1 := arg_cell (k := .int .i64) (by kernel_rfl) (by kernel_rfl) (by kernel_rfl) (hval 0 3 v1 (by rw [Try.params3]; rfl) rfl) k1
  have o2 := arg_cell (k := .int .u8) (by kernel_rfl) (by kernel_rfl) (by kernel_rfl) (hval 1 5 v2 (by rw [Try.params3]; rfl) rfl) k2
  have o3 := arg_cell (k := .slice 31) (by kernel_rfl) (by kernel_rfl) (by kernel_rfl) (hval 2 22 v3 (by rw [Try.params3]; rfl) rfl) k3
  obtain ⟨s1, rfl, w1⟩ := o1
  obtain ⟨s2, rfl, w2⟩ := o2
  have T : Tabs enc Try.prog W₀ (fun _ _ => v3) (fun _ => 31) (fun _ => ktS) (fun _ _ => 0) :=
    ⟨fun _ => ⟨by kernel_rfl, by kernel_rfl, Nat.succ_pos _⟩, fun _ _ => o3, fun t p i j e _ hj => by rcases j with _ | _ | _ | _ | j <;> simp [ktS] at hj⟩
  have hE : tabE W₀ (fun _ _ => v3) (fun _ => ktS) (fun _ _ => 0) = tabS (ints W₀ v3 4 0) (ints W₀ v3 4 1) (ints W₀ v3 4 2) (ints W₀ v3 4 3) := by
    funext t p
    simp only [tabE, segK, tabS, ints_length]; rfl
  have ht : TabOk (ints W₀ v3 4 0) (ints W₀ v3 4 1) (ints W₀ v3 4 2) (ints W₀ v3 4 3) := by
    refine ⟨by simp only [ints_length], by simp only [ints_length], by simp only [ints_length], fun x hx => ?_, fun x hx => ?_, fun x hx => ?_⟩
    · have := inK_of (gL_le T (t := 0) (p := 0) (j := 1) rfl x hx)
      simp only [i8, Bool.and_eq_true, decide_eq_true_eq]; exact this
    · have := inK_of (gL_le T (t := 0) (p := 0) (j := 2) rfl x hx)
      simp only [i8, Bool.and_eq_true, decide_eq_true_eq]; exact this
    · exact u64_iff.2 (inK_of (gL_le T (t := 0) (p := 0) (j := 3) rfl x hx))
  have H0 := T.start' hE
  have ha : RelL (tabS (ints W₀ v3 4 0) (ints W₀ v3 4 1) (ints W₀ v3 4 2) (ints W₀ v3 4 3)) (tabR fun _ _ => v3) (fun _ => none) [.int .i64 s1, .int .u8 s2, gV 0 0 v3] #[.int .i64 s1, .int .u8 s2, v3].toList :=
    .cons (.int _ _) (.cons (.int _ _) (.cons (T.rel' hE 0 0) .nil))
  have hV : okV (ints W₀ v3 4 0) (gV 0 0 v3) = true := by
    rcases o3 with rfl | ⟨a, len, cap, fuel, rfl, _⟩
    · rfl
    · show decide (_ = _) = true
      rw [ints_length]; exact decide_eq_true rfl
  exact law_end' Try.laidOut law3 rfl hW' rfl H0 ha (plays_gives ht s1 s2 hV)

theorem plays_holds : Rows.SendPlaysSaid :=
  OpenClaim.holds_of_wide 3 Try.f3 rfl rfl rfl rfl rfl rfl rfl ⟨rfl, rfl, rfl, rfl, rfl⟩ rfl rfl rfl rfl rfl (by kernel_rfl) Try.func3 (by kernel_rfl)
    (of_decide_eq_true (by kernel_rfl)) (by unfold Func.isWrapper; first | (rw [if_pos (by decide +kernel)]; kernel_rfl) | (rw [if_neg (by decide +kernel)]; exact ⟨rfl, rfl⟩))
    (fun os started H enc _ => plays_lifted os started H enc)

#print axioms plays_holds
end Go.Proofs.Ytoahbijmemgghaa
