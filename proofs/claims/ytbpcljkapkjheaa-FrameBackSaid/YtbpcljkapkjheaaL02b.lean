/- PROVED: the law FrameBack returns true, whatever the bodies, the cut and the bytes: bodies of a row come back, of a row that is cut those that are whole, and what is read of any bytes is laid again just so; no condition. -/
import Derived.Test.YtbpcljkapkjheaaP02u
import Derived.Test.YtbpcljkapkjheaaE05
namespace Go.Proofs.Ytbpcljkapkjheaa
open Go.ChangeShapes Go.WideShapes Go.ChangeAt Go.RowKit Ab

theorem law5 : lawB Try.prog Try.f5 = true := by kernel_rfl

def ktS : List CK := [.str]

theorem back_lifted (os : Os) (started : os.Started) (H : Type) (enc : TypeId × Value → H) :
    ReturnsInHanded {} Try.checked os 5 .any (Rows.frameBackSpec.pre6 enc Try.prog Try.f5 Rows.frameBackRow.domain false) (Rows.frameBackSpec.post enc Try.prog Try.f5 false true false false) := by
  refine returnsInHanded_of_change (C := Try.checked) Try.own started (by kernel_rfl) Try.func5
    (ChangeSpec.witness6 (enc := enc) (C := Try.checked) false ⟨#[], #[.slice none 0 0, .int .u16 0, .string ByteArray.empty], []⟩ 8 (by kernel_rfl) (by kernel_rfl) (by kernel_rfl) (by kernel_rfl)) ?_
  intro W₀ base args ds gs before hval hW _ _
  have hW' := hW
  obtain ⟨p, q, hA, _⟩ := hW
  rw [show (Try.f5).params.toList = [30, 31, 9] from by rw [Try.params5]] at hA
  obtain ⟨v2, v1, v3, d1, d2, d3, p1, p2, p3, rfl, rfl, _, k2, k1, k3⟩ := trodAll_three hA
  have o2 := arg_cell (k := .slice 9) (by kernel_rfl) (by kernel_rfl) (by kernel_rfl) (hval 0 30 v2 (by rw [Try.params5]; rfl) rfl) k2
  obtain ⟨x, rfl, hx⟩ := arg_cell (k := .int .u16) (by kernel_rfl) (by kernel_rfl) (by kernel_rfl) (hval 1 31 v1 (by rw [Try.params5]; rfl) rfl) k1
  obtain ⟨s, rfl, _⟩ := arg_cell (k := .str) (by kernel_rfl) (by kernel_rfl) (by kernel_rfl) (hval 2 9 v3 (by rw [Try.params5]; rfl) rfl) k3
  have T : Tabs enc Try.prog W₀ (fun _ _ => v2) (fun _ => 9) (fun _ => ktS) (fun _ _ => 0) :=
    ⟨fun _ => ⟨by kernel_rfl, by kernel_rfl, Nat.succ_pos _⟩, fun _ _ => o2, fun t p i j e _ hj => by rcases j with _ | j <;> simp [ktS] at hj⟩
  have hE : tabE W₀ (fun _ _ => v2) (fun _ => ktS) (fun _ _ => 0) = tabS (strs W₀ v2 1 0) := by
    funext t p
    simp only [tabE, segK, tabS, strs_length]; rfl
  have H0 := T.start' hE
  have ha : RelL (tabS (strs W₀ v2 1 0)) (tabR fun _ _ => v2) (fun _ => none) [gV 0 0 v2, .int .u16 x, .str s] #[v2, .int .u16 x, .string s].toList :=
    .cons (T.rel' hE 0 0) (.cons (.int _ _) (.cons (.str _) .nil))
  have hV : okS (strs W₀ v2 1 0) (gV 0 0 v2) = true := by
    rcases o2 with rfl | ⟨a, len, cap, fuel, rfl, _⟩
    · rfl
    · show decide (_ = _) = true
      rw [strs_length]; exact decide_eq_true rfl
  exact law_end' Try.laidOut law5 rfl hW' rfl H0 ha (back_gives hV s (inK_of hx))

theorem back_holds : Rows.FrameBackSaid :=
  OpenClaim.holds_of_wide 5 Try.f5 rfl rfl rfl rfl rfl rfl rfl ⟨rfl, rfl, rfl, rfl, rfl⟩ rfl rfl rfl rfl rfl (by kernel_rfl) Try.func5 (by kernel_rfl)
    (of_decide_eq_true (by kernel_rfl)) (by unfold Func.isWrapper; first | (rw [if_pos (by decide +kernel)]; kernel_rfl) | (rw [if_neg (by decide +kernel)]; exact ⟨rfl, rfl⟩))
    (fun os started H enc _ => back_lifted os started H enc)

#print axioms back_holds
end Go.Proofs.Ytbpcljkapkjheaa
