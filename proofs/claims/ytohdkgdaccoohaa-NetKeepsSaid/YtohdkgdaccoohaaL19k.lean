/- PROVED: the law NetKeeps returns true, whatever the capacity and the acts: what is sent is delivered, lost, or still there; no text comes that was not sent, and none oftener than sent and doubled; no condition. -/
import Derived.Test.YtohdkgdaccoohaaP19e
namespace Go.Proofs.Ytohdkgdaccoohaa
open Go.ChangeShapes Go.WideShapes Go.ChangeAt Go.RowKit Ab

theorem law4 : lawB Try.prog Try.f4 = true := by kernel_rfl

def ktA : List CK := [.int .u8, .int .i8, .str]

theorem keeps_lifted (os : Os) (started : os.Started) (H : Type) (enc : TypeId × Value → H) :
    ReturnsInHanded {} Try.checked os 4 .any (Rows.netKeepsSpec.pre6 enc Try.prog Try.f4 Rows.netKeepsRow.domain false) (Rows.netKeepsSpec.post enc Try.prog Try.f4 false true false false) := by
  refine returnsInHanded_of_change (C := Try.checked) Try.own started (by kernel_rfl) Try.func4
    (ChangeSpec.witness6 (enc := enc) (C := Try.checked) false ⟨#[], #[.int .u8 0, .slice none 0 0], []⟩ 8 (by kernel_rfl) (by kernel_rfl) (by kernel_rfl) (by kernel_rfl)) ?_
  intro W₀ base args ds gs before hval hW _ _
  have hW' := hW
  obtain ⟨p, q, hA, _⟩ := hW
  rw [show (Try.f4).params.toList = [5, 22] from by rw [Try.params4]] at hA
  obtain ⟨v1, v2, d1, d2, p1, p2, rfl, rfl, _, k1, k2⟩ := trodAll_two hA
  obtain ⟨b, rfl, hb⟩ := arg_cell (k := .int .u8) (by kernel_rfl) (by kernel_rfl) (by kernel_rfl) (hval 0 5 v1 (by rw [Try.params4]; rfl) rfl) k1
  have o2 := arg_cell (k := .slice 29) (by kernel_rfl) (by kernel_rfl) (by kernel_rfl) (hval 1 22 v2 (by rw [Try.params4]; rfl) rfl) k2
  have T : Tabs enc Try.prog W₀ (fun _ _ => v2) (fun _ => 29) (fun _ => ktA) (fun _ _ => 0) :=
    ⟨fun _ => ⟨by kernel_rfl, by kernel_rfl, Nat.succ_pos _⟩, fun _ _ => o2, fun t p i j e _ hj => by rcases j with _ | _ | _ | j <;> simp [ktA] at hj⟩
  have hE : tabE W₀ (fun _ _ => v2) (fun _ => ktA) (fun _ _ => 0) = tabN ⟨ints W₀ v2 3 0, ints W₀ v2 3 1, strs W₀ v2 3 2⟩ := by
    funext t p
    simp only [tabE, segK, tabN, ints_length]; rfl
  have H0 := T.start' hE
  have ha : RelL (tabN ⟨ints W₀ v2 3 0, ints W₀ v2 3 1, strs W₀ v2 3 2⟩) (tabR fun _ _ => v2) (fun _ => none) [.int .u8 b, gV 0 0 v2] #[.int .u8 b, v2].toList := .cons (.int _ _) (.cons (T.rel' hE 0 0) .nil)
  have hV : okV ⟨ints W₀ v2 3 0, ints W₀ v2 3 1, strs W₀ v2 3 2⟩ (gV 0 0 v2) = true := by
    rcases o2 with rfl | ⟨a, len, cap, fuel, rfl, _⟩
    · rfl
    · show decide (_ = _) = true
      rw [ints_length]; exact decide_eq_true rfl
  exact law_end' Try.laidOut law4 rfl hW' rfl H0 ha (keeps_gives hV (inK_of hb))

theorem keeps_holds : Rows.NetKeepsSaid :=
  OpenClaim.holds_of_wide 4 Try.f4 rfl rfl rfl rfl rfl rfl rfl ⟨rfl, rfl, rfl, rfl, rfl⟩ rfl rfl rfl rfl rfl (by kernel_rfl) Try.func4 (by kernel_rfl)
    (of_decide_eq_true (by kernel_rfl)) (by unfold Func.isWrapper; first | (rw [if_pos (by decide +kernel)]; kernel_rfl) | (rw [if_neg (by decide +kernel)]; exact ⟨rfl, rfl⟩))
    (fun os started H enc _ => keeps_lifted os started H enc)

#print axioms keeps_holds
end Go.Proofs.Ytohdkgdaccoohaa
