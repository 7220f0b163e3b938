/- PROVED: the law FrameReads returns true, whatever the bytes, the bodies and the turns: what any bytes are read as, from any place, is as the document says; no condition. -/
import Derived.Test.YtbpcljkapkjheaaP02f
import Derived.Test.YtbpcljkapkjheaaE05
namespace Go.Proofs.Ytbpcljkapkjheaa
open Go.ChangeShapes Go.WideShapes Go.ChangeAt Go.RowKit Ab

theorem law4 : lawB Try.prog Try.f4 = true := by kernel_rfl

def ktS : List CK := [.str]

theorem reads_lifted (os : Os) (started : os.Started) (H : Type) (enc : TypeId × Value → H) :
    ReturnsInHanded {} Try.checked os 4 .any (Rows.frameReadsSpec.pre6 enc Try.prog Try.f4 Rows.frameReadsRow.domain false) (Rows.frameReadsSpec.post enc Try.prog Try.f4 false true false false) := by
  refine returnsInHanded_of_change (C := Try.checked) Try.own started (by kernel_rfl) Try.func4
    (ChangeSpec.witness6 (enc := enc) (C := Try.checked) false ⟨#[], #[.string ByteArray.empty, .slice none 0 0, .agg #[.int .u16 0, .int .u16 0, .int .u8 0]], []⟩ 8 (by kernel_rfl) (by kernel_rfl) (by kernel_rfl) (by kernel_rfl)) ?_
  intro W₀ base args ds gs before hval hW _ _
  have hW' := hW
  obtain ⟨p, q, hA, _⟩ := hW
  rw [show (Try.f4).params.toList = [9, 30, 33] from by rw [Try.params4]] at hA
  obtain ⟨v1, v2, v3, d1, d2, d3, p1, p2, p3, rfl, rfl, _, k1, k2, k3⟩ := trodAll_three hA
  obtain ⟨s, rfl, _⟩ := arg_cell (k := .str) (by kernel_rfl) (by kernel_rfl) (by kernel_rfl) (hval 0 9 v1 (by rw [Try.params4]; rfl) rfl) k1
  have o2 := arg_cell (k := .slice 9) (by kernel_rfl) (by kernel_rfl) (by kernel_rfl) (hval 1 30 v2 (by rw [Try.params4]; rfl) rfl) k2
  obtain ⟨cs3, rfl, o3⟩ := arg_row (ks := [.int .u16, .int .u16, .int .u8]) (by kernel_rfl) (by kernel_rfl) (hval 2 33 v3 (by rw [Try.params4]; rfl) rfl) k3
  cases o3 with | cons h1 o3 =>
  cases o3 with | cons h2 o3 =>
  cases o3 with | cons h3 o3 =>
  cases o3
  obtain ⟨x, rfl, hx⟩ := h1
  obtain ⟨y, rfl, hy⟩ := h2
  obtain ⟨z, rfl, _⟩ := h3
  have T : Tabs enc Try.prog W₀ (fun _ _ => v2) (fun _ => 9) (fun _ => ktS) (fun _ _ => 0) :=
    ⟨fun _ => ⟨by kernel_rfl, by kernel_rfl, Nat.succ_pos _⟩, fun _ _ => o2, fun t p i j e _ hj => by rcases j with _ | j <;> simp [ktS] at hj⟩
  have hE : tabE W₀ (fun _ _ => v2) (fun _ => ktS) (fun _ _ => 0) = tabS (strs W₀ v2 1 0) := by
    funext t p
    simp only [tabE, segK, tabS, strs_length]; rfl
  have H0 := T.start' hE
  have ha : RelL (tabS (strs W₀ v2 1 0)) (tabR fun _ _ => v2) (fun _ => none) [.str s, gV 0 0 v2, .agg [.int .u16 x, .int .u16 y, .int .u8 z]] #[.string s, v2, .agg #[.int .u16 x, .int .u16 y, .int .u8 z]].toList :=
    .cons (.str _) (.cons (T.rel' hE 0 0) (.cons (.agg (.cons (.int _ _) (.cons (.int _ _) (.cons (.int _ _) .nil)))) .nil))
  have hV : okS (strs W₀ v2 1 0) (gV 0 0 v2) = true := by
    rcases o2 with rfl | ⟨a, len, cap, fuel, rfl, _⟩
    · rfl
    · show decide (_ = _) = true
      rw [strs_length]; exact decide_eq_true rfl
  exact law_end' Try.laidOut law4 rfl hW' rfl H0 ha (reads_gives hV s (inK_of hx) (inK_of hy))

theorem reads_holds : Rows.FrameReadsSaid :=
  OpenClaim.holds_of_wide 4 Try.f4 rfl rfl rfl rfl rfl rfl rfl ⟨rfl, rfl, rfl, rfl, rfl⟩ rfl rfl rfl rfl rfl (by kernel_rfl) Try.func4 (by kernel_rfl)
    (of_decide_eq_true (by kernel_rfl)) (by unfold Func.isWrapper; first | (rw [if_pos (by decide +kernel)]; kernel_rfl) | (rw [if_neg (by decide +kernel)]; exact ⟨rfl, rfl⟩))
    (fun os started H enc _ => reads_lifted os started H enc)

#print axioms reads_holds
end Go.Proofs.Ytbpcljkapkjheaa
