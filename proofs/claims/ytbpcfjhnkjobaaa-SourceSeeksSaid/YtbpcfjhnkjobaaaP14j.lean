/- source: SourceLate as a whole. -/
import Derived.Test.YtbpcfjhnkjobaaaP14i
set_option linter.unusedSimpArgs false
namespace Go.Proofs.Ytbpcfjhnkjobaaa
open Ab

/-- as many items as the laws take -/
def topN (T : Tb) : Nat := min (many T) 1000
theorem top_int (T : Tb) : (if 1000 < ((many T : Nat) : Int) then (1000 : Int) else ((many T : Nat) : Int)) = ((topN T : Nat) : Int) := by
  unfold topN
  split <;> omega
theorem top_le (T : Tb) : topN T ≤ many T ∧ topN T ≤ 1000 := by unfold topN; omega
theorem top_pos {T : Tb} {V : AVal} (h : noDr T V = false) : 0 < topN T := by have := many_pos h; unfold topN; omega
/-- the source's items -/
def cut (T : Tb) : Items := (draft T (many T)).take (topN T)
theorem cut_len (T : Tb) : (cut T).im.length = topN T := by
  have := (top_le T).1
  simp only [cut, Items.take, List.length_take, draft_im]; omega
theorem cut_lens (T : Tb) : lensI (cut T) (cut T).im.length = true := by
  have h := (top_le T).1
  rw [cut_len]
  simp only [cut, Items.take, draft, lensI, List.length_take, dIms_len, dTms_len, dRts_len, firstI_len, firstB_len, Nat.min_eq_left h, decide_true, Bool.and_self]
theorem nw_cut {T : Tb} {V : AVal} (h : noDr T V = false) (late : Int) : okNw ⟨true, draft T (many T), topN T, late⟩ = true :=
  okNw_iff.2 ⟨by rw [draft_im]; exact draft_lens T _, by rw [draft_im]; exact (top_le T).1, .inl ⟨rfl, top_pos h⟩⟩
theorem bad_cut (T : Tb) {late : Int} (h : 0 ≤ late ∧ late < 256) : badNw ⟨true, draft T (many T), topN T, late⟩ = false := by
  have := (top_le T).2
  exact badNw_no.2 ⟨by simp only; omega, by simp only; omega, by simp only; omega⟩
theorem bad_nil {late : Int} (h : 0 ≤ late ∧ late < 256) : badNw ⟨false, .none, 0, late⟩ = false := badNw_no.2 ⟨by simp only; omega, by simp only; omega, by simp only; omega⟩
theorem both_cut (T : Tb) {late : Int} (h : 0 ≤ late ∧ late < 256) : okBoth true ⟨cut T, late, 0, 0, false⟩ = true := by
  have h1 := (top_le T).2
  have h2 := cut_len T
  refine okBoth_iff.2 ⟨okSr_iff.2 ⟨cut_lens T, ?_, h.1, ?_, Int.le_refl _, by show (0 : Int) ≤ far; decide, Int.le_refl _, ?_, fun _ => ?_⟩, fun hh => by cases hh⟩
  · simp only; omega
  · simp only; omega
  · simp only; omega
  · simp only; omega

theorem lates {a b : Int} (ha : 0 ≤ a ∧ a < 256) (hb : 0 ≤ b ∧ b < 256) : ∃ x y : Int, wr .i64 (if b < a then b else a) = x ∧ wr .i64 (if a < b then b else a) = y ∧ (0 ≤ x ∧ x < 256) ∧ (0 ≤ y ∧ y < 256) ∧ x ≤ y := by
  have h1 : 0 ≤ (if b < a then b else a) ∧ (if b < a then b else a) < 256 := by split <;> omega
  have h2 : 0 ≤ (if a < b then b else a) ∧ (if a < b then b else a) < 256 := by split <;> omega
  refine ⟨_, _, wr_in ⟨by omega, by omega⟩, wr_in ⟨by omega, by omega⟩, h1, h2, ?_⟩
  split <;> split <;> omega

section
variable {ra : Nat → Nat → Nat × Nat} {base : Nat} {T : Tb}

theorem tw_nil {x y : Int} (hx : 0 ≤ x ∧ x < 256) (hy : 0 ≤ y ∧ y < 256) (h : x ≤ y) : okTwo ⟨false, .none, 0, ⟨.none, x, 0, 0, false⟩, ⟨.none, y, 0, 0, false⟩⟩ = true := by
  simp only [okTwo, Bool.and_eq_true]
  exact ⟨both_nil (bad_nil hx), both_nil (bad_nil hy), rfl, rfl⟩
theorem tw_cut (T : Tb) {x y : Int} (hx : 0 ≤ x ∧ x < 256) (hy : 0 ≤ y ∧ y < 256) : okTwo ⟨true, draft T (many T), topN T, ⟨cut T, x, 0, 0, false⟩, ⟨cut T, y, 0, 0, false⟩⟩ = true := by
  simp only [okTwo, Bool.and_eq_true, decide_eq_true_eq]
  exact ⟨both_cut T hx, both_cut T hy, sameI_iff.2 rfl, cut_len T⟩

theorem late_gives {V : AVal} (hV : okV 0 T.w.length V = true) {a b : Int} (ha : 0 ≤ a ∧ a < 256) (hb : 0 ≤ b ∧ b < 256) :
    Gives Try.prog (tabT T) ra base 0 7 [V, .agg [.int .u8 a, .int .u8 b]] (hp 0 []) fun v _ => v = .bool true := by
  have hE := tabT_plain T
  have hS := S3_ok (ra := ra) (base := base) T
  have hT := TT_ok (ra := ra) (base := base) T
  obtain ⟨x, y, ex, ey, hx, hy, hxy⟩ := lates ha hb
  have c1 := bad_nil hx
  have c2 := bad_nil hy
  have ok0 := tw_nil hx hy hxy
  have dle : decide (x ≤ y) = true := decide_eq_true hxy
  rcases okV_cases hV with ⟨rfl, h0⟩ | rfl
  · have hd : noDr T .nils = true := noDr_iff.2 h0
    refine gives_of_treeQ hE (wE hE hS) hT (hp_below _) (tw_callN T a b) ?_
    rw [ex, ey]
    simp only [TreeQ.holds, decide_true, Bool.and_self, Bool.and_true, Bool.true_and, true_and, hd, hV, c1, c2, ok0, dle, Bool.not_true, Bool.not_false, Bool.false_eq_true, false_implies, forall_const, and_true, reduceCtorEq, Bool.true_eq_false]
    exact ⟨_, rfl, rfl⟩
  · cases hd : noDr T (.slice (.ro 0 0 0 0) T.w.length none) with
    | true =>
      refine gives_of_treeQ hE (wE hE hS) hT (hp_below _) (tw_callS T T.w.length a b) ?_
      rw [ex, ey]
      simp only [TreeQ.holds, decide_true, Bool.and_self, Bool.and_true, Bool.true_and, true_and, hd, hV, c1, c2, ok0, dle, Bool.not_true, Bool.not_false, Bool.false_eq_true, false_implies, forall_const, and_true, reduceCtorEq, Bool.true_eq_false]
      exact ⟨_, rfl, rfl⟩
    | false =>
      refine gives_of_treeQ hE (wE hE hS) hT (hp_below _) (tw_callS T T.w.length a b) ?_
      have hD : (⟨dIms T (many T), dTms T (many T), firstI T.it.ky (many T), dRts T (many T), firstI T.it.vl (many T), firstI T.it.sd (many T), firstB T.it.er (many T), firstB T.it.lt (many T)⟩ : Items) = draft T (many T) := rfl
      have hC : (⟨(dIms T (many T)).take (topN T), (dTms T (many T)).take (topN T), (firstI T.it.ky (many T)).take (topN T), (dRts T (many T)).take (topN T), (firstI T.it.vl (many T)).take (topN T), (firstI T.it.sd (many T)).take (topN T), (firstB T.it.er (many T)).take (topN T), (firstB T.it.lt (many T)).take (topN T)⟩ : Items) = cut T := rfl
      have b1 := bad_cut T hx
      have b2 := bad_cut T hy
      have n1 := nw_cut hd x
      have n2 := nw_cut hd y
      have k0 := tw_cut T hx hy
      have q1 : decide (0 ≤ ((topN T : Nat) : Int)) = true := decide_eq_true (by omega)
      have q2 : decide (((topN T : Nat) : Int) ≤ ((many T : Nat) : Int)) = true := decide_eq_true (by have := (top_le T).1; omega)
      rw [ex, ey, top_int T, Int.toNat_natCast]
      simp only [hD, hC]
      simp only [TreeQ.holds, decide_true, Bool.and_self, Bool.and_true, Bool.true_and, true_and, hd, hV, b1, b2, n1, n2, k0, q1, q2, dle, Bool.not_true, Bool.not_false, Bool.false_eq_true, false_implies, forall_const, and_true, reduceCtorEq, Bool.true_eq_false, dIms_len]
      exact ⟨decide_eq_true (cut_len T).symm, _, rfl, rfl⟩
end
end Go.Proofs.Ytbpcfjhnkjobaaa
