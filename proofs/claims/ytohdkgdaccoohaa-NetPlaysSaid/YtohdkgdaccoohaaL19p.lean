/- PROVED: the law NetPlays returns true, whatever the capacity and the acts: the program's net is the document's; no condition. -/
import Derived.Test.YtohdkgdaccoohaaP19s
namespace Go.Proofs.Ytohdkgdaccoohaa
open Go.ChangeShapes Go.WideShapes Go.ChangeAt Go.RowKit Ab

theorem law3 : lawB Try.prog Try.f3 = true := by kernel_rfl

def ktA : List CK := [.int .u8, .int .i8, .str]

theorem plays_lifted (os : Os) (started : os.Started) (H : Type) (enc : TypeId × Value → H) :
    ReturnsInHanded {} Try.checked os 3 .any (Rows.netPlaysSpec.pre6 enc Try.prog Try.f3 Rows.netPlaysRow.domain false) (Rows.netPlaysSpec.post enc Try.prog Try.f3 false true false false) := by
  refine returnsInHanded_of_change (C := Try.checked) Try.own started (by kernel_rfl) Try.func3
    (ChangeSpec.witness6 (enc := enc) (C := Try.checked) false ⟨#[], #[.int .i64 0, .slice none 0 0], []⟩ 8 (by kernel_rfl) (by kernel_rfl) (by kernel_rfl) (by kernel_rfl)) ?_
  intro W₀ base args ds gs before hval hW _ _
  have hW' := hW
  obtain ⟨p, q, hA, _⟩ := hW
  rw [show (Try.f3).params.toList = [3, 22] from by rw [Try.params3]] at hA
  obtain ⟨v1, v2, d1, d2, p1, p2, rfl, rfl, _, k1, k2⟩ := trodAll_two hA
  obtain ⟨b, rfl, hb⟩ := arg_cell (k := .int .i64) (by kernel_rfl) (by kernel_rfl) (by kernel_rfl) (hval 0 3 v1 (by rw [Try.params3]; rfl) rfl) k1
  have o2 := arg_cell (k := .slice 29) (by kernel_rfl) (by kernel_rfl) (by kernel_rfl) (hval 1 22 v2 (by rw [Try.params3]; rfl) rfl) k2
  have T : Tabs enc Try.prog W₀ (fun _ _ => v2) (fun _ => 29) (fun _ => ktA) (fun _ _ => 0) :=
    ⟨fun _ => ⟨by kernel_rfl, by kernel_rfl, Nat.succ_pos _⟩, fun _ _ => o2, fun t p i j e _ hj => by rcases j with _ | _ | _ | j <;> simp [ktA] at hj⟩
  have hE : tabE W₀ (fun _ _ => v2) (fun _ => ktA) (fun _ _ => 0) = tabN ⟨ints W₀ v2 3 0, ints W₀ v2 3 1, strs W₀ v2 3 2⟩ := by
    funext t p
    simp only [tabE, segK, tabN, ints_length]; rfl
  have H0 := T.start' hE
  have ha : RelL (tabN ⟨ints W₀ v2 3 0, ints W₀ v2 3 1, strs W₀ v2 3 2⟩) (tabR fun _ _ => v2) (fun _ => none) [.int .i64 b, gV 0 0 v2] #[.int .i64 b, v2].toList := .cons (.int _ _) (.cons (T.rel' hE 0 0) .nil)
  have hV : okV ⟨ints W₀ v2 3 0, ints W₀ v2 3 1, strs W₀ v2 3 2⟩ (gV 0 0 v2) = true := by
    rcases o2 with rfl | ⟨a, len, cap, fuel, rfl, _⟩
    · rfl
    · show decide (_ = _) = true
      rw [ints_length]; exact decide_eq_true rfl
  have ht : (strs W₀ v2 3 2).length = (ints W₀ v2 3 0).length := by rw [ints_length, Ab.strs, List.length_map, List.length_range]
  exact law_end' Try.laidOut law3 rfl hW' rfl H0 ha (plays_gives ht hV b)

theorem plays_holds : Rows.NetPlaysSaid :=
  OpenClaim.holds_of_wide 3 Try.f3 rfl rfl rfl rfl rfl rfl rfl ⟨rfl, rfl, rfl, rfl, rfl⟩ rfl rfl rfl rfl rfl (by kernel_rfl) Try.func3 (by kernel_rfl)
    (of_decide_eq_true (by kernel_rfl)) (by unfold Func.isWrapper; first | (rw [if_pos (by decide +kernel)]; kernel_rfl) | (rw [if_neg (by decide +kernel)]; exact ⟨rfl, rfl⟩))
    (fun os started H enc _ => plays_lifted os started H enc)

#print axioms plays_holds
end Go.Proofs.Ytohdkgdaccoohaa
