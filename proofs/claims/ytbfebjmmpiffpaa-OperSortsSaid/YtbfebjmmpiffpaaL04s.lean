/- PROVED: the law OperSorts returns true, whatever the record and the numbers: each value goes through just one of a number's filters, a Flat of one and a Map by 1 and 0 make nothing else of it, a Key leads below its A, and B; no condition. -/
import Derived.Test.YtbfebjmmpiffpaaP04s
namespace Go.Proofs.Ytbfebjmmpiffpaa
open Go.ChangeShapes Go.WideShapes Go.ChangeAt Go.RowKit Ab

theorem law6 : lawB Try.prog Try.f6 = true := by kernel_rfl

theorem sorts_lifted (os : Go.Os) (started : os.Started) (H : Type) (enc : TypeId × Value → H) :
    ReturnsInHanded {} Try.checked os 6 .any (Rows.operSortsSpec.pre6 enc Try.prog Try.f6 Rows.operSortsRow.domain false) (Rows.operSortsSpec.post enc Try.prog Try.f6 false true false false) := by
  refine returnsInHanded_of_change (C := Try.checked) Try.own started (by kernel_rfl) Try.func6
    (ChangeSpec.witness6 (enc := enc) (C := Try.checked) false ⟨#[], #[.agg #[.int .u32 0, .int .i64 0, .int .i64 0, .int .u8 0, .bool false, .bool false], .int .u8 0, .int .u32 0], []⟩ 8 (by kernel_rfl) (by kernel_rfl) (by kernel_rfl) (by kernel_rfl)) ?_
  intro W₀ base args ds gs before hval hW _ _
  have hW' := hW
  obtain ⟨p, q, hA, _⟩ := hW
  rw [show (Try.f6).params.toList = [36, 5, 34] from by rw [Try.params6]] at hA
  obtain ⟨v1, v2, v3, d1, d2, d3, p1, p2, p3, rfl, rfl, _, k1, k2, k3⟩ := trodAll_three hA
  obtain ⟨cs1, rfl, o1⟩ := arg_row (ks := [.int .u32, .int .i64, .int .i64, .int .u8, .bool, .bool]) (by kernel_rfl) (by kernel_rfl) (hval 0 36 v1 (by rw [Try.params6]; rfl) rfl) k1
  obtain ⟨m, rfl, hm⟩ := arg_cell (k := .int .u8) (by kernel_rfl) (by kernel_rfl) (by kernel_rfl) (hval 1 5 v2 (by rw [Try.params6]; rfl) rfl) k2
  obtain ⟨b, rfl, hb⟩ := arg_cell (k := .int .u32) (by kernel_rfl) (by kernel_rfl) (by kernel_rfl) (hval 2 34 v3 (by rw [Try.params6]; rfl) rfl) k3
  cases o1 with | cons g1 o1 =>
  cases o1 with | cons g2 o1 =>
  cases o1 with | cons g3 o1 =>
  cases o1 with | cons g4 o1 =>
  cases o1 with | cons g5 o1 =>
  cases o1 with | cons g6 o1 =>
  cases o1
  obtain ⟨k, rfl, hk⟩ := g1
  obtain ⟨t, rfl, _⟩ := g2
  obtain ⟨v, rfl, hv⟩ := g3
  obtain ⟨s, rfl, _⟩ := g4
  obtain ⟨e, rfl⟩ := g5
  obtain ⟨l, rfl⟩ := g6
  have hr : RelL noSeg noRa (fun _ => none) [Rc.v ⟨k, t, v, s, e, l⟩, .int .u8 m, .int .u32 b] #[.agg #[.int .u32 k, .int .i64 t, .int .i64 v, .int .u8 s, .bool e, .bool l], .int .u8 m, .int .u32 b].toList :=
    .cons (.agg (.cons (.int _ _) (.cons (.int _ _) (.cons (.int _ _) (.cons (.int _ _) (.cons (.bool _) (.cons (.bool _) .nil))))))) (.cons (.int _ _) (.cons (.int _ _) .nil))
  exact law_end' Try.laidOut law6 rfl hW' rfl (WRel.start0 W₀) hr (sorts_gives noE_plain (inK_of hk) (inK_of hv) (inK_of hm) (inK_of hb))

theorem sorts_holds : Rows.OperSortsSaid :=
  OpenClaim.holds_of_wide 6 Try.f6 rfl rfl rfl rfl rfl rfl rfl ⟨rfl, rfl, rfl, rfl, rfl⟩ rfl rfl rfl rfl rfl (by kernel_rfl) Try.func6 (by kernel_rfl)
    (of_decide_eq_true (by kernel_rfl)) (by unfold Func.isWrapper; first | (rw [if_pos (by decide +kernel)]; kernel_rfl) | (rw [if_neg (by decide +kernel)]; exact ⟨rfl, rfl⟩))
    (fun os started H enc _ => sorts_lifted os started H enc)

#print axioms sorts_holds
end Go.Proofs.Ytbfebjmmpiffpaa
