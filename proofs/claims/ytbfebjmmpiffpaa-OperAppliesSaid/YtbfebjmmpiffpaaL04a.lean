/- PROVED: the law OperApplies returns true, whatever the drafts, the operator and the record: what operators make of a record is as the document says; no condition. -/
import Derived.Test.YtbfebjmmpiffpaaA04
namespace Go.Proofs.Ytbfebjmmpiffpaa
open Go.ChangeShapes Go.WideShapes Go.ChangeAt Go.RowKit Ab

theorem law4 : lawB Try.prog Try.f4 = true := by kernel_rfl

theorem applies_lifted (os : Go.Os) (started : os.Started) (H : Type) (enc : TypeId × Value → H) :
    ReturnsInHanded {} Try.checked os 4 .any (Rows.operAppliesSpec.pre6 enc Try.prog Try.f4 Rows.operAppliesRow.domain false) (Rows.operAppliesSpec.post enc Try.prog Try.f4 false true false false) := by
  refine returnsInHanded_of_change (C := Try.checked) Try.own started (by kernel_rfl) Try.func4
    (ChangeSpec.witness6 (enc := enc) (C := Try.checked) false ⟨#[], #[.slice none 0 0, .agg #[.int .i64 0, .int .i64 0, .int .i64 0, .int .i64 0], .agg #[.int .u32 0, .int .i64 0, .int .i64 0, .int .u8 0, .bool false, .bool false]], []⟩ 8 (by kernel_rfl) (by kernel_rfl) (by kernel_rfl) (by kernel_rfl)) ?_
  intro W₀ base args ds gs before hval hW _ _
  have hW' := hW
  obtain ⟨p, q, hA, _⟩ := hW
  rw [show (Try.f4).params.toList = [33, 23, 36] from by rw [Try.params4]] at hA
  obtain ⟨v1, v2, v3, d1, d2, d3, p1, p2, p3, rfl, rfl, _, k1, k2, k3⟩ := trodAll_three hA
  have o1 := arg_cell (k := .slice 25) (by kernel_rfl) (by kernel_rfl) (by kernel_rfl) (hval 0 33 v1 (by rw [Try.params4]; rfl) rfl) k1
  obtain ⟨cs2, rfl, o2⟩ := arg_row (ks := [.int .i64, .int .i64, .int .i64, .int .i64]) (by kernel_rfl) (by kernel_rfl) (hval 1 23 v2 (by rw [Try.params4]; rfl) rfl) k2
  obtain ⟨cs3, rfl, o3⟩ := arg_row (ks := [.int .u32, .int .i64, .int .i64, .int .u8, .bool, .bool]) (by kernel_rfl) (by kernel_rfl) (hval 2 36 v3 (by rw [Try.params4]; rfl) rfl) k3
  cases o2 with | cons g1 o2 =>
  cases o2 with | cons g2 o2 =>
  cases o2 with | cons g3 o2 =>
  cases o2 with | cons g4 o2 =>
  cases o2
  cases o3 with | cons h1 o3 =>
  cases o3 with | cons h2 o3 =>
  cases o3 with | cons h3 o3 =>
  cases o3 with | cons h4 o3 =>
  cases o3 with | cons h5 o3 =>
  cases o3 with | cons h6 o3 =>
  cases o3
  obtain ⟨k, rfl, _⟩ := g1
  obtain ⟨a, rfl, _⟩ := g2
  obtain ⟨b, rfl, _⟩ := g3
  obtain ⟨g, rfl, _⟩ := g4
  obtain ⟨ky, rfl, hk⟩ := h1
  obtain ⟨t, rfl, _⟩ := h2
  obtain ⟨v, rfl, hv⟩ := h3
  obtain ⟨s, rfl, _⟩ := h4
  obtain ⟨e, rfl⟩ := h5
  obtain ⟨l, rfl⟩ := h6
  have T := tb_tabs (v2 := .slice none 0 0) o1 (.inl rfl)
  have hE := tb_tab W₀ v1 (.slice none 0 0)
  have H0 := T.start' hE
  have hrc : rcB ⟨ky, t, v, s, e, l⟩ = true := rc_iff.2 ⟨by
    have h : 0 ≤ ky ∧ ky < 4294967296 := inK_of hk
    simp only; omega, inK_of hv⟩
  have ha : RelL (tabT (tbOf W₀ v1 (.slice none 0 0))) (tabR (val04 v1 (.slice none 0 0))) (fun _ => none) [gV 0 0 v1, Op4.v ⟨k, a, b, g⟩, Rc.v ⟨ky, t, v, s, e, l⟩] #[v1, .agg #[.int .i64 k, .int .i64 a, .int .i64 b, .int .i64 g], .agg #[.int .u32 ky, .int .i64 t, .int .i64 v, .int .u8 s, .bool e, .bool l]].toList :=
    .cons (T.rel' hE 0 0) (.cons (.agg (.cons (.int _ _) (.cons (.int _ _) (.cons (.int _ _) (.cons (.int _ _) .nil))))) (.cons (.agg (.cons (.int _ _) (.cons (.int _ _) (.cons (.int _ _) (.cons (.int _ _) (.cons (.bool _) (.cons (.bool _) .nil))))))) .nil))
  exact law_end' Try.laidOut law4 rfl hW' rfl H0 ha (applies_gives (tb_okV o1) hrc)

theorem applies_holds : Rows.OperAppliesSaid :=
  OpenClaim.holds_of_wide 4 Try.f4 rfl rfl rfl rfl rfl rfl rfl ⟨rfl, rfl, rfl, rfl, rfl⟩ rfl rfl rfl rfl rfl (by kernel_rfl) Try.func4 (by kernel_rfl)
    (of_decide_eq_true (by kernel_rfl)) (by unfold Func.isWrapper; first | (rw [if_pos (by decide +kernel)]; kernel_rfl) | (rw [if_neg (by decide +kernel)]; exact ⟨rfl, rfl⟩))
    (fun os started H enc _ => applies_lifted os started H enc)

#print axioms applies_holds
end Go.Proofs.Ytbfebjmmpiffpaa
