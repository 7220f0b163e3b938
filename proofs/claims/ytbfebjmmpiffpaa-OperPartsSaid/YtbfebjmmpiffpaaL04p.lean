/- PROVED: the law OperParts returns true, whatever the drafts and the record: two lists of operators, one behind the other, make of a record what the second one makes of each of what the first one does; times and sides stay, and so many come out, at most, as the Flats say; no condition. -/
import Derived.Test.YtbfebjmmpiffpaaA04
import Derived.Test.YtbfebjmmpiffpaaP04z
namespace Go.Proofs.Ytbfebjmmpiffpaa
open Go.ChangeShapes Go.WideShapes Go.ChangeAt Go.RowKit Ab

theorem law5 : lawB Try.prog Try.f5 = true := by kernel_rfl

theorem parts_lifted (os : Go.Os) (started : os.Started) (H : Type) (enc : TypeId × Value → H) :
    ReturnsInHanded {} Try.checked os 5 .any (Rows.operPartsSpec.pre6 enc Try.prog Try.f5 Rows.operPartsRow.domain false) (Rows.operPartsSpec.post enc Try.prog Try.f5 false true false false) := by
  refine returnsInHanded_of_change (C := Try.checked) Try.own started (by kernel_rfl) Try.func5
    (ChangeSpec.witness6 (enc := enc) (C := Try.checked) false ⟨#[], #[.slice none 0 0, .slice none 0 0, .agg #[.int .u32 0, .int .i64 0, .int .i64 0, .int .u8 0, .bool false, .bool false]], []⟩ 8 (by kernel_rfl) (by kernel_rfl) (by kernel_rfl) (by kernel_rfl)) ?_
  intro W₀ base args ds gs before hval hW _ _
  have hW' := hW
  obtain ⟨p, q, hA, _⟩ := hW
  rw [show (Try.f5).params.toList = [33, 33, 36] from by rw [Try.params5]] at hA
  obtain ⟨v1, v2, v3, d1, d2, d3, p1, p2, p3, rfl, rfl, _, k1, k2, k3⟩ := trodAll_three hA
  have o1 := arg_cell (k := .slice 25) (by kernel_rfl) (by kernel_rfl) (by kernel_rfl) (hval 0 33 v1 (by rw [Try.params5]; rfl) rfl) k1
  have o2 := arg_cell (k := .slice 25) (by kernel_rfl) (by kernel_rfl) (by kernel_rfl) (hval 1 33 v2 (by rw [Try.params5]; rfl) rfl) k2
  obtain ⟨cs3, rfl, o3⟩ := arg_row (ks := [.int .u32, .int .i64, .int .i64, .int .u8, .bool, .bool]) (by kernel_rfl) (by kernel_rfl) (hval 2 36 v3 (by rw [Try.params5]; rfl) rfl) k3
  cases o3 with | cons h1 o3 =>
  cases o3 with | cons h2 o3 =>
  cases o3 with | cons h3 o3 =>
  cases o3 with | cons h4 o3 =>
  cases o3 with | cons h5 o3 =>
  cases o3 with | cons h6 o3 =>
  cases o3
  obtain ⟨ky, rfl, hk⟩ := h1
  obtain ⟨t, rfl, _⟩ := h2
  obtain ⟨v, rfl, hv⟩ := h3
  obtain ⟨s, rfl, _⟩ := h4
  obtain ⟨e, rfl⟩ := h5
  obtain ⟨l, rfl⟩ := h6
  have T := tb_tabs o1 o2
  have hE := tb_tab W₀ v1 v2
  have H0 := T.start' hE
  have ha : RelL (tabT (tbOf W₀ v1 v2)) (tabR (val04 v1 v2)) (fun _ => none) [gV 0 0 v1, gV 1 0 v2, Rc.v ⟨ky, t, v, s, e, l⟩] #[v1, v2, .agg #[.int .u32 ky, .int .i64 t, .int .i64 v, .int .u8 s, .bool e, .bool l]].toList :=
    .cons (T.rel' hE 0 0) (.cons (T.rel' hE 1 0) (.cons (.agg (.cons (.int _ _) (.cons (.int _ _) (.cons (.int _ _) (.cons (.int _ _) (.cons (.bool _) (.cons (.bool _) .nil))))))) .nil))
  exact law_end' Try.laidOut law5 rfl hW' rfl H0 ha (parts_gives (tb_okV o1) (tb_okW o2))

theorem parts_holds : Rows.OperPartsSaid :=
  OpenClaim.holds_of_wide 5 Try.f5 rfl rfl rfl rfl rfl rfl rfl ⟨rfl, rfl, rfl, rfl, rfl⟩ rfl rfl rfl rfl rfl (by kernel_rfl) Try.func5 (by kernel_rfl)
    (of_decide_eq_true (by kernel_rfl)) (by unfold Func.isWrapper; first | (rw [if_pos (by decide +kernel)]; kernel_rfl) | (rw [if_neg (by decide +kernel)]; exact ⟨rfl, rfl⟩))
    (fun os started H enc _ => parts_lifted os started H enc)

#print axioms parts_holds
end Go.Proofs.Ytbfebjmmpiffpaa
