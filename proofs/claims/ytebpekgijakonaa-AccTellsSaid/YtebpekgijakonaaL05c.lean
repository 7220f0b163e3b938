/- PROVED: the law AccTells returns true, whatever the aggregates and the value: the program's One, Merge and Result are the document's; no condition. -/
import Derived.Test.YtebpekgijakonaaP05c
import Derived.Test.YtebpekgijakonaaT05d
namespace Go.Proofs.Ytebpekgijakonaa
open Go.ChangeShapes Go.WideShapes Go.ChangeAt Go.RowKit Ab

theorem tells_runs {E : Nat → Nat → Seg} {x y : Ac} {v : Int} (hx : okL x = true) (hy : okL y = true) (hv : okV v = true) :
    ∃ d r, (callB Try.prog E S8 (W E S8 noL) 3 [x.v, y.v, .int .i64 v]).Runs [] (.bool true) d r := by
  refine true_of_tree (tells_tree E x y v) ?_
  have h1 : okL { n := 1, h := Int.fdiv v 9223372036854775808, l := wr .u64 v, a := v, b := v } = true := by
    have := wru_ok v
    simp only [okL, this, decide_true, Bool.and_self]
  simp only [Tree.holds, hx, hy, hv, h1, decide_true, Bool.and_self, Bool.not_true, true_and]
  rfl

theorem law3 : lawB Try.prog Try.f3 = true := by kernel_rfl

theorem open_ac {H : Type} {enc : TypeId × Value → H} {w : World} {cs : List Value} (h : OpenL enc Try.prog w [.int .i64, .int .i64, .int .u64, .int .i64, .int .i64] cs) :
    ∃ x : Ac, okL x = true ∧ ∀ {E : Nat → Nat → Seg} {ra : Nat → Nat → Nat × Nat} {ι : Inj}, Rel E ra ι x.v (.agg cs.toArray) := by
  cases h with | cons h1 h =>
  cases h with | cons h2 h =>
  cases h with | cons h3 h =>
  cases h with | cons h4 h =>
  cases h with | cons h5 h =>
  cases h
  obtain ⟨n, rfl, _⟩ := h1
  obtain ⟨h, rfl, _⟩ := h2
  obtain ⟨l, rfl, hl⟩ := h3
  obtain ⟨a, rfl, _⟩ := h4
  obtain ⟨b, rfl, _⟩ := h5
  have hl := inK_of hl
  exact ⟨⟨n, h, l, a, b⟩, by simp only [okL, hl.1, hl.2, decide_true, Bool.and_self], .agg (.cons (.int _ _) (.cons (.int _ _) (.cons (.int _ _) (.cons (.int _ _) (.cons (.int _ _) .nil)))))⟩

theorem tells_lifted (os : Os) (started : os.Started) (H : Type) (enc : TypeId × Value → H) :
    ReturnsInHanded {} Try.checked os 3 .any (Rows.accTellsSpec.pre6 enc Try.prog Try.f3 Rows.accTellsRow.domain false) (Rows.accTellsSpec.post enc Try.prog Try.f3 false true false false) := by
  refine returnsInHanded_of_change (C := Try.checked) Try.own started (by kernel_rfl) Try.func3
    (ChangeSpec.witness6 (enc := enc) (C := Try.checked) false ⟨#[], #[.agg #[.int .i64 0, .int .i64 0, .int .u64 0, .int .i64 0, .int .i64 0], .agg #[.int .i64 0, .int .i64 0, .int .u64 0, .int .i64 0, .int .i64 0], .int .i64 0], []⟩ 8 (by kernel_rfl) (by kernel_rfl) (by kernel_rfl) (by kernel_rfl)) ?_
  intro W₀ base args ds gs before hval hW _ _
  have hW' := hW
  obtain ⟨p, q, hA, _⟩ := hW
  rw [show (Try.f3).params.toList = [24, 24, 2] from by rw [Try.params3]] at hA
  obtain ⟨v1, v2, v3, d1, d2, d3, p1, p2, p3, rfl, rfl, _, k1, k2, k3⟩ := trodAll_three hA
  obtain ⟨cs1, rfl, o1⟩ := arg_row (ks := [.int .i64, .int .i64, .int .u64, .int .i64, .int .i64]) (by kernel_rfl) (by kernel_rfl) (hval 0 24 v1 (by rw [Try.params3]; rfl) rfl) k1
  obtain ⟨cs2, rfl, o2⟩ := arg_row (ks := [.int .i64, .int .i64, .int .u64, .int .i64, .int .i64]) (by kernel_rfl) (by kernel_rfl) (hval 1 24 v2 (by rw [Try.params3]; rfl) rfl) k2
  obtain ⟨v, rfl, hv⟩ := arg_cell (k := .int .i64) (by kernel_rfl) (by kernel_rfl) (by kernel_rfl) (hval 2 2 v3 (by rw [Try.params3]; rfl) rfl) k3
  obtain ⟨x, hx, rx⟩ := open_ac o1
  obtain ⟨y, hy, ry⟩ := open_ac o2
  have hv := inK_of hv
  have hok : okV v = true := by simp only [okV, hv.1, hv.2, decide_true, Bool.and_self]
  have hP : Plain noSeg := fun tid par j v h => by rw [noSeg_cell] at h; cases h
  exact law_end Try.laidOut law3 rfl hW' rfl (WRel.start0 W₀) (.cons rx (.cons ry (.cons (.int _ _) .nil))) (W_ok (S8_ok hP) noL_ok) (S8_ok hP) (tells_runs hx hy hok)

theorem tells_holds : Rows.AccTellsSaid :=
  OpenClaim.holds_of_wide 3 Try.f3 rfl rfl rfl rfl rfl rfl rfl ⟨rfl, rfl, rfl, rfl, rfl⟩ rfl rfl rfl rfl rfl (by kernel_rfl) Try.func3 (by kernel_rfl)
    (of_decide_eq_true (by kernel_rfl)) (by unfold Func.isWrapper; first | (rw [if_pos (by decide +kernel)]; kernel_rfl) | (rw [if_neg (by decide +kernel)]; exact ⟨rfl, rfl⟩))
    (fun os started H enc _ => tells_lifted os started H enc)

#print axioms tells_holds
end Go.Proofs.Ytebpekgijakonaa
