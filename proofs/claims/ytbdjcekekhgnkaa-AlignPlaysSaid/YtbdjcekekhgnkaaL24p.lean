/- PROVED: the law AlignPlays returns true, whatever the numbers of ways and the acts: the program's aligner is the document's; no condition. -/
import Derived.Test.YtbdjcekekhgnkaaP24d
namespace Go.Proofs.Ytbdjcekekhgnkaa
open Go.ChangeShapes Go.WideShapes Go.ChangeAt Go.RowKit Ab

theorem law3 : lawB Try.prog Try.f3 = true := by kernel_rfl

def ktA : List CK := [.int .u8, .int .u8, .int .i8, .int .i64]

theorem plays_lifted (os : Os) (started : os.Started) (H : Type) (enc : TypeId × Value → H) :
    ReturnsInHanded {} Try.checked os 3 .any (Rows.alignPlaysSpec.pre6 enc Try.prog Try.f3 Rows.alignPlaysRow.domain false) (Rows.alignPlaysSpec.post enc Try.prog Try.f3 false true false false) := by
  refine returnsInHanded_of_change (C := Try.checked) Try.own started (by kernel_rfl) Try.func3
    (ChangeSpec.witness6 (enc := enc) (C := Try.checked) false ⟨#[], #[.agg #[.int .i64 0, .int .i64 0, .int .i64 0], .agg #[.int .u8 0, .int .u8 0], .slice none 0 0], []⟩ 8 (by kernel_rfl) (by kernel_rfl) (by kernel_rfl) (by kernel_rfl)) ?_
  intro W₀ base args ds gs before hval hW _ _
  have hW' := hW
  obtain ⟨p, q, hA, _⟩ := hW
  rw [show (Try.f3).params.toList = [22, 23, 24] from by rw [Try.params3]] at hA
  obtain ⟨v1, v2, v3, d1, d2, d3, p1, p2, p3, rfl, rfl, _, k1, k2, k3⟩ := trodAll_three hA
  obtain ⟨cs1, rfl, o1⟩ := arg_row (ks := [.int .i64, .int .i64, .int .i64]) (by kernel_rfl) (by kernel_rfl) (hval 0 22 v1 (by rw [Try.params3]; rfl) rfl) k1
  obtain ⟨cs2, rfl, o2⟩ := arg_row (ks := [.int .u8, .int .u8]) (by kernel_rfl) (by kernel_rfl) (hval 1 23 v2 (by rw [Try.params3]; rfl) rfl) k2
  have o3 := arg_cell (k := .slice 32) (by kernel_rfl) (by kernel_rfl) (by kernel_rfl) (hval 2 24 v3 (by rw [Try.params3]; rfl) rfl) k3
  cases o1 with | cons g1 o1 =>
  cases o1 with | cons g2 o1 =>
  cases o1 with | cons g3 o1 =>
  cases o1
  cases o2 with | cons g4 o2 =>
  cases o2 with | cons g5 o2 =>
  cases o2
  obtain ⟨s1, rfl, w1⟩ := g1
  obtain ⟨s2, rfl, w2⟩ := g2
  obtain ⟨s3, rfl, w3⟩ := g3
  obtain ⟨f1, rfl, w4⟩ := g4
  obtain ⟨f2, rfl, w5⟩ := g5
  have T : Tabs enc Try.prog W₀ (fun _ _ => v3) (fun _ => 32) (fun _ => ktA) (fun _ _ => 0) :=
    ⟨fun _ => ⟨by kernel_rfl, by kernel_rfl, Nat.succ_pos _⟩, fun _ _ => o3, fun t p i j e _ hj => by rcases j with _ | _ | _ | _ | j <;> simp [ktA] at hj⟩
  have hE : tabE W₀ (fun _ _ => v3) (fun _ => ktA) (fun _ _ => 0) = tabA (ints W₀ v3 4 0) (ints W₀ v3 4 1) (ints W₀ v3 4 2) (ints W₀ v3 4 3) := by
    funext t p
    simp only [tabE, segK, tabA, ints_length]; rfl
  have hd : ∀ x ∈ ints W₀ v3 4 3, in64 x := fun x hx => inK_of (gL_le T (t := 0) (p := 0) (j := 3) rfl x hx)
  have H0 := T.start' hE
  have ha : RelL (tabA (ints W₀ v3 4 0) (ints W₀ v3 4 1) (ints W₀ v3 4 2) (ints W₀ v3 4 3)) (tabR fun _ _ => v3) (fun _ => none) [.agg [.int .i64 s1, .int .i64 s2, .int .i64 s3], .agg [.int .u8 f1, .int .u8 f2], gV 0 0 v3]
      #[.agg #[.int .i64 s1, .int .i64 s2, .int .i64 s3], .agg #[.int .u8 f1, .int .u8 f2], v3].toList :=
    .cons (.agg (.cons (.int _ _) (.cons (.int _ _) (.cons (.int _ _) .nil)))) (.cons (.agg (.cons (.int _ _) (.cons (.int _ _) .nil))) (.cons (T.rel' hE 0 0) .nil))
  have hV : okV (ints W₀ v3 4 0) (gV 0 0 v3) = true := by
    rcases o3 with rfl | ⟨a, len, cap, fuel, rfl, _⟩
    · rfl
    · show decide (_ = _) = true
      rw [ints_length]; exact decide_eq_true rfl
  exact law_end' Try.laidOut law3 rfl hW' rfl H0 ha (plays_gives hd (by rw [ints_length, ints_length]) (inK_of w1) (inK_of w2) (inK_of w3) (inK_of w4) (inK_of w5) hV)

theorem plays_holds : Rows.AlignPlaysSaid :=
  OpenClaim.holds_of_wide 3 Try.f3 rfl rfl rfl rfl rfl rfl rfl ⟨rfl, rfl, rfl, rfl, rfl⟩ rfl rfl rfl rfl rfl (by kernel_rfl) Try.func3 (by kernel_rfl)
    (of_decide_eq_true (by kernel_rfl)) (by unfold Func.isWrapper; first | (rw [if_pos (by decide +kernel)]; kernel_rfl) | (rw [if_neg (by decide +kernel)]; exact ⟨rfl, rfl⟩))
    (fun os started H enc _ => plays_lifted os started H enc)

#print axioms plays_holds
end Go.Proofs.Ytbdjcekekhgnkaa
