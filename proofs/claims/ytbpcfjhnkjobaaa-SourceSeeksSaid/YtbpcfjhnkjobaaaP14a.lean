/- source: Next keeps its contract. -/
import Derived.Test.YtbpcfjhnkjobaaaT14a
set_option linter.unusedSimpArgs false
namespace Go.Proofs.Ytbpcfjhnkjobaaa
open Ab

theorem next_over {y : Sr} (h : y.over = true) : nextK y = 0 ∧ nextR y = noRec ∧ next y = y := by
  simp only [nextK, nextR, next, if_pos h, and_self]
theorem next_ends {y : Sr} (h : y.over = false) (he : y.ends = true) : nextK y = 4 ∧ nextR y = noRec ∧ next y = ⟨y.it, y.late, far, y.pl + 1, true⟩ := by
  have h' : ¬ y.over = true := by rw [h]; decide
  simp only [nextK, nextR, next, if_neg h', if_pos he, and_self]
theorem next_mark {y : Sr} (h : y.over = false) (he : y.ends = false) (hm : y.it.im.getD y.pl.toNat false = true) : nextK y = 3 ∧ nextR y = noRec ∧
    next y = ⟨y.it, y.late, if outT (y.it.tm.getD y.pl.toNat 0) = true then y.f else max y.f (y.it.tm.getD y.pl.toNat 0 - y.late), y.pl + 1, false⟩ := by
  have h' : ¬ y.over = true := by rw [h]; decide
  have he' : ¬ y.ends = true := by rw [he]; decide
  simp only [nextK, nextR, next, if_neg h', if_neg he', hm, if_true, Bool.true_and, true_and]
  cases outT (y.it.tm.getD y.pl.toNat 0) <;> rfl
theorem next_rec {y : Sr} (h : y.over = false) (he : y.ends = false) (hm : y.it.im.getD y.pl.toNat false = false) : nextK y = (if straight y y.pl.toNat = true then 2 else 1) ∧
    nextR y = ⟨y.it.ky.getD y.pl.toNat 0, if straight y y.pl.toNat = true then y.f else y.it.rt.getD y.pl.toNat 0, if outT (y.it.rt.getD y.pl.toNat 0) = true then 0 else y.it.vl.getD y.pl.toNat 0, y.it.sd.getD y.pl.toNat 0, outT (y.it.rt.getD y.pl.toNat 0), !outT (y.it.rt.getD y.pl.toNat 0) && decide (y.it.rt.getD y.pl.toNat 0 < y.f)⟩ ∧
    next y = ⟨y.it, y.late, y.f, y.pl + 1, false⟩ := by
  have h' : ¬ y.over = true := by rw [h]; decide
  have he' : ¬ y.ends = true := by rw [he]; decide
  have hm' : ¬ y.it.im.getD y.pl.toNat false = true := by rw [hm]; decide
  simp only [nextK, nextR, next, if_neg h', if_neg he', if_neg hm', hm, Bool.false_and, Bool.false_eq_true, if_false, and_self]

theorem okSr_iff {y : Sr} : okSr y = true ↔ lensI y.it y.it.im.length = true ∧ y.it.im.length ≤ 1000 ∧ 0 ≤ y.late ∧ y.late ≤ 1073741824 ∧ 0 ≤ y.f ∧ y.f ≤ far ∧ 0 ≤ y.pl ∧ y.pl ≤ y.it.im.length + 1 ∧ (y.over = false → y.pl ≤ y.it.im.length) := by
  simp only [okSr, Bool.and_eq_true, decide_eq_true_eq, Bool.or_eq_true]
  cases y.over <;> simp

theorem out_iff {t : Int} : outT t = true ↔ t < 0 ∨ 1099511627776 < t := by simp [outT]
theorem out_no {t : Int} : outT t = false ↔ 0 ≤ t ∧ t ≤ 1099511627776 := by
  rw [← Bool.not_eq_true, out_iff]; omega

theorem next_ok {y : Sr} (h : okSr y = true) : okSr (next y) = true ∧ (next y).it = y.it ∧ (next y).late = y.late := by
  obtain ⟨h1, h2, h3, h4, h5, h6, h7, h8, h9⟩ := okSr_iff.1 h
  cases ho : y.over with
  | true => rw [(next_over ho).2.2]; exact ⟨h, rfl, rfl⟩
  | false =>
    have h9 := h9 ho
    cases he : y.ends with
    | true =>
      rw [(next_ends ho he).2.2]
      exact ⟨okSr_iff.2 ⟨h1, h2, h3, h4, by show (0 : Int) ≤ far; decide, Int.le_refl _, by simp only; omega, by simp only; omega, fun hh => by cases hh⟩, rfl, rfl⟩
    | false =>
      have hlt : y.pl < y.it.im.length := by
        simp only [Sr.ends, Bool.or_eq_false_iff, decide_eq_false_iff_not] at he
        omega
      cases hm : y.it.im.getD y.pl.toNat false with
      | true =>
        rw [(next_mark ho he hm).2.2]
        refine ⟨okSr_iff.2 ⟨h1, h2, h3, h4, ?_, ?_, by simp only; omega, by simp only; omega, fun _ => by simp only; omega⟩, rfl, rfl⟩
        · simp only; split
          · exact h5
          · omega
        · simp only; split
          · exact h6
          · rename_i hh
            have := out_no.1 (Bool.eq_false_iff.2 hh)
            show max _ _ ≤ (1152921504606846976 : Int)
            have h6 : y.f ≤ 1152921504606846976 := h6
            generalize y.it.tm.getD y.pl.toNat 0 = tv at this
            omega
      | false =>
        rw [(next_rec ho he hm).2.2]
        exact ⟨okSr_iff.2 ⟨h1, h2, h3, h4, h5, h6, by simp only; omega, by simp only; omega, fun _ => by simp only; omega⟩, rfl, rfl⟩

section
variable {E : Nat → Nat → Seg} {ra : Nat → Nat → Nat × Nat} {base : Nat}

theorem in_pl {y : Sr} (h : okSr y = true) : wr .i64 (y.pl + 1) = y.pl + 1 := by
  obtain ⟨h1, h2, h3, h4, h5, h6, h7, h8, h9⟩ := okSr_iff.1 h
  exact wr_in ⟨by omega, by omega⟩

theorem in_tm {y : Sr} (h : okSr y = true) {t : Int} (h0 : 0 ≤ t) (h1 : t ≤ 1099511627776) : wr .i64 (t - y.late) = t - y.late := by
  obtain ⟨_, h2, h3, h4, h5, h6, h7, h8, h9⟩ := okSr_iff.1 h
  exact wr_in ⟨by omega, by omega⟩

theorem max_if (a b : Int) : (if a < b then b else a) = max a b := by
  by_cases h : a < b
  · rw [if_pos h]; omega
  · rw [if_neg h]; omega

theorem next_S_gives (hE : Plain E) (y : Sr) (h : okSr y = true) : Gives Try.prog E ra base 2 13 [.ptr (.own 0 0 0 0)] (hp 0 (Src.blks ⟨.full, y⟩)) fun v h' => v = nextD.out ⟨.full, y⟩ ∧ h' = hp 0 (nextD.blks' ⟨.full, y⟩) := by
  obtain ⟨h1, h2, h3, h4, h5, h6, h7, h8, h9⟩ := okSr_iff.1 h
  refine (gives_of_tree hE (W_ok sumNone_ok noL_ok) sumNone_ok (hp_below _) (next_S E y) ?_).2
  have hp1 := in_pl h
  rw [hp1]
  simp only [Tree.holds, Nat.zero_add]
  have hw : ∀ t : Int, 0 ≤ t → t ≤ 1099511627776 → wr .i64 (t - y.late) = t - y.late := fun t a b => in_tm h a b
  generalize hmv : y.it.im.getD y.pl.toNat false = mv
  generalize htv : y.it.tm.getD y.pl.toNat 0 = tv
  generalize hrv : y.it.rt.getD y.pl.toNat 0 = rv
  have hends : y.ends = (decide (y.pl = y.it.im.length) || (mv && decide (tv = far))) := by rw [Sr.ends, hmv, htv]
  have hst : straight y y.pl.toNat = (outT rv || decide (rv < y.f)) := by rw [straight, hrv]
  cases ho : y.over with
  | true =>
    refine ⟨fun _ => ⟨_, rfl, ?_, ?_⟩, fun hh => by cases hh⟩
    · obtain ⟨g1, g2, g3⟩ := next_over ho
      simp only [nextD, nextG, g1, g2]; rfl
    · obtain ⟨g1, g2, g3⟩ := next_over ho
      simp only [nextD, nextG, Src.now, g3, Sr.cells, ho]; rfl
  | false =>
    have h9 := h9 ho
    refine ⟨fun hh => (by cases hh), fun _ => ⟨fun a => ?_, fun a => ?_⟩⟩
    · have he : y.ends = true := by rw [hends, a]; rfl
      obtain ⟨g1, g2, g3⟩ := next_ends ho he
      exact ⟨_, rfl, by simp only [nextD, nextG, g1, g2]; rfl, by simp only [nextD, nextG, Src.now, g3, Sr.cells]; rfl⟩
    · have hlt : y.pl < y.it.im.length := by have := of_decide_eq_false a; omega
      refine ⟨by rw [Bool.and_eq_true]; exact ⟨decide_eq_true h7, decide_eq_true hlt⟩, decide_eq_true (by omega), fun b => ?_, fun b => ?_⟩
      · have hm : mv = false := by simpa using b
        subst hm
        have he : y.ends = false := by rw [hends, a]; rfl
        obtain ⟨g1, g2, g3⟩ := next_rec ho he hmv
        rw [hrv, hst] at g2
        rw [hst] at g1
        refine ⟨fun c => ⟨fun d => ⟨d, ?_⟩, fun d => ⟨d, fun e => ?_, fun e => ?_⟩⟩, fun c => ?_⟩
        all_goals
          simp only [decide_eq_true_eq, decide_eq_false_iff_not, Bool.not_eq_true', Bool.not_eq_false', decide_eq_decide] at *
        · have hq : outT rv = true := out_iff.2 (by omega)
          have hq2 : decide (rv ≤ 1099511627776) = false := decide_eq_false d
          exact ⟨_, rfl, by simp only [nextD, nextG, g1, g2, hq, hq2]; rfl, by simp only [nextD, nextG, Src.now, g3, Sr.cells, ho]; rfl⟩
        · have hq : outT rv = false := out_no.2 ⟨c, d⟩
          have hq2 : decide (rv ≤ 1099511627776) = true := decide_eq_true d
          have hq3 : decide (rv < y.f) = true := decide_eq_true e
          exact ⟨_, rfl, by simp only [nextD, nextG, g1, g2, hq, hq2, hq3]; rfl, by simp only [nextD, nextG, Src.now, g3, Sr.cells, ho]; rfl⟩
        · have hq : outT rv = false := out_no.2 ⟨c, d⟩
          have hq2 : decide (rv ≤ 1099511627776) = true := decide_eq_true d
          have hq3 : decide (rv < y.f) = false := decide_eq_false e
          exact ⟨_, rfl, by simp only [nextD, nextG, g1, g2, hq, hq2, hq3]; rfl, by simp only [nextD, nextG, Src.now, g3, Sr.cells, ho]; rfl⟩
        · have hq : outT rv = true := out_iff.2 (by omega)
          exact ⟨_, rfl, by simp only [nextD, nextG, g1, g2, hq]; rfl, by simp only [nextD, nextG, Src.now, g3, Sr.cells, ho]; rfl⟩
      · have hm : mv = true := by simpa using b
        subst hm
        refine ⟨fun c => ?_, fun c => ?_⟩
        · have he : y.ends = true := by rw [hends]; simp only [Bool.true_and, Bool.or_eq_true]; exact .inr c
          obtain ⟨g1, g2, g3⟩ := next_ends ho he
          exact ⟨_, rfl, by simp only [nextD, nextG, g1, g2]; rfl, by simp only [nextD, nextG, Src.now, g3, Sr.cells]; rfl⟩
        · have he : y.ends = false := by
            rw [hends, a, Bool.false_or, Bool.true_and]
            exact c
          obtain ⟨g1, g2, g3⟩ := next_mark ho he hmv
          rw [htv] at g3
          refine ⟨fun d => ⟨fun e => ?_, fun e => ?_⟩, fun d => ?_⟩
          all_goals simp only [decide_eq_true_eq, decide_eq_false_iff_not] at d
          · have e := of_decide_eq_true e
            have hq : outT tv = false := out_no.2 ⟨d, e⟩
            refine ⟨_, rfl, by simp only [nextD, nextG, g1, g2]; rfl, ?_⟩
            simp only [nextD, nextG, Src.now, g3, hq, Sr.cells, ho, hw tv d e, max_if]; rfl
          · have e := of_decide_eq_false e
            have hq : outT tv = true := out_iff.2 (by omega)
            exact ⟨_, rfl, by simp only [nextD, nextG, g1, g2]; rfl, by simp only [nextD, nextG, Src.now, g3, hq, Sr.cells, ho]; rfl⟩
          · have hq : outT tv = true := out_iff.2 (by omega)
            exact ⟨_, rfl, by simp only [nextD, nextG, g1, g2]; rfl, by simp only [nextD, nextG, Src.now, g3, hq, Sr.cells, ho]; rfl⟩
end
end Go.Proofs.Ytbpcfjhnkjobaaa
