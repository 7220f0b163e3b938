/- source: SourceSeeks: what is read from the start on, in plain numbers. -/
import Derived.Test.YtbpcfjhnkjobaaaP14j
import Derived.Test.YtbpcfjhnkjobaaaD14s
set_option linter.unusedSimpArgs false
namespace Go.Proofs.Ytbpcfjhnkjobaaa
open Ab

theorem nth_next : ∀ (k : Nat) (y : Sr), nth (k + 1) y = nth k (next y)
  | 0, _ => rfl
  | k + 1, y => by
    show next (nth (k + 1) y) = next (nth k (next y))
    rw [nth_next k y]

theorem nth_ok {y : Sr} (h : okSr y = true) : ∀ k : Nat, okSr (nth k y) = true ∧ (nth k y).it = y.it ∧ (nth k y).late = y.late
  | 0 => ⟨h, rfl, rfl⟩
  | k + 1 => by
    obtain ⟨h1, h2, h3⟩ := nth_ok h k
    obtain ⟨g1, g2, g3⟩ := next_ok h1
    exact ⟨g1, g2.trans h2, g3.trans h3⟩

theorem age_spec : ∀ (m : Nat) {y : Sr}, okSr y = true → (y.it.im.length : Int) + 1 - y.pl ≤ m → (nth (ageN m y) y).over = true ∧ ∀ k, k < ageN m y → (nth k y).over = false
  | 0, y, h, hm => by
    refine ⟨?_, fun k hk => absurd hk (Nat.not_lt_zero _)⟩
    show y.over = true
    cases ho : y.over with
    | true => rfl
    | false =>
      have := (okSr_iff.1 h).2.2.2.2.2.2.2.2 ho
      omega
  | m + 1, y, h, hm => by
    cases ho : y.over with
    | true =>
      have e : ageN (m + 1) y = 0 := by rw [ageN, if_pos ho]
      rw [e]
      exact ⟨ho, fun k hk => absurd hk (Nat.not_lt_zero _)⟩
    | false =>
      have e : ageN (m + 1) y = ageN m (next y) + 1 := by rw [ageN, if_neg (by rw [ho]; decide)]
      obtain ⟨g1, g2, _⟩ := next_ok h
      have g3 := next_pl ho
      obtain ⟨q1, q2⟩ := age_spec m g1 (by rw [g2, g3]; omega)
      rw [e]
      refine ⟨by rw [nth_next]; exact q1, fun k hk => ?_⟩
      cases k with
      | zero => exact ho
      | succ k => rw [nth_next]; exact q2 k (by omega)

/-- a source at its start -/
structure New (y : Sr) : Prop where
  ok : okSr y = true
  f : y.f = 0
  pl : y.pl = 0
  over : y.over = false

theorem New.st0 {y : Sr} (h : New y) : start y = y := by
  obtain ⟨it, late, f, pl, over⟩ := y
  obtain ⟨_, h1, h2, h3⟩ := h
  simp only at h1 h2 h3
  subst h1; subst h2; subst h3
  rfl

theorem new_start {y : Sr} (h : okSr y = true) : New (start y) := ⟨start_ok h, rfl, rfl, rfl⟩
theorem start_nth {y : Sr} (h : okSr y = true) (k : Nat) : start (nth k y) = start y := by
  obtain ⟨_, h2, h3⟩ := nth_ok h k
  show (⟨_, _, 0, 0, false⟩ : Sr) = ⟨_, _, 0, 0, false⟩
  rw [h2, h3]

theorem New.spec {y : Sr} (h : New y) : (fin y).over = true ∧ ∀ k, k < allN y → (nth k y).over = false :=
  age_spec _ h.ok (by rw [h.pl]; omega)

theorem New.pl_nth {y : Sr} (h : New y) : ∀ k, k ≤ allN y → (nth k y).pl = k
  | 0, _ => h.pl
  | k + 1, hk => by
    show (next (nth k y)).pl = _
    rw [next_pl (h.spec.2 k (by omega)), h.pl_nth k (by omega)]
    omega

theorem New.all_le {y : Sr} (h : New y) : allN y ≤ y.it.im.length + 1 ∧ allN y ≤ 1001 := by
  obtain ⟨h1, h2, _⟩ := nth_ok h.ok (allN y)
  have h3 := h.pl_nth (allN y) (Nat.le_refl _)
  obtain ⟨_, q2, _, _, _, _, _, q8, _⟩ := okSr_iff.1 h1
  rw [h2, h3] at q8
  rw [h2] at q2
  omega

theorem New.over_nth {y : Sr} (h : New y) {k : Nat} (hk : k ≤ allN y) : (nth k y).over = decide (k = allN y) := by
  rcases Nat.lt_or_ge k (allN y) with h1 | h1
  · rw [h.spec.2 k h1, decide_eq_false (by omega)]
  · have : k = allN y := by omega
    subst this
    rw [decide_eq_true rfl]; exact h.spec.1

theorem New.run {y : Sr} (h : New y) (k : Nat) : ∀ (d i r : Nat), i + d = min k (allN y) → runTo k (d + r) (nth i y) = nth (i + d) y
  | 0, i, r, hd => by
    refine runTo_stop ?_ _
    rintro ⟨h1, h2⟩
    have hi : i ≤ allN y := by omega
    rw [h.pl_nth i hi] at h1
    rw [h.over_nth hi] at h2
    have := of_decide_eq_false h2
    omega
  | d + 1, i, r, hd => by
    have hi : i < allN y := by omega
    have e : d + 1 + r = d + r + 1 := by omega
    rw [e, runTo, if_pos ⟨by rw [h.pl_nth i (by omega)]; omega, h.spec.2 i hi⟩]
    have := h.run k d (i + 1) r (by omega)
    rw [show i + (d + 1) = i + 1 + d by omega, ← this]
    rfl

theorem New.so0 {y : Sr} (h : New y) (k : Nat) : sought y k = nth (min k (allN y)) y := by
  have hl := h.all_le.1
  have e := h.run k (min k (allN y)) 0 (y.it.im.length + 2 - min k (allN y)) (by omega)
  rw [show min k (allN y) + (y.it.im.length + 2 - min k (allN y)) = y.it.im.length + 2 by omega, Nat.zero_add] at e
  show runTo k (y.it.im.length + 2) (Go.Proofs.Ytbpcfjhnkjobaaa.start y) = _
  rw [h.st0]
  exact e

theorem sought_start {y : Sr} (k : Int) : sought y k = sought (start y) k := rfl

/-- seeks, of a source that has come anywhere -/
theorem New.seek_in {y z : Sr} (h : New y) (hz : start z = y) {k : Nat} (hk : k ≤ allN y) : seekE z k = 0 ∧ seek z k = nth k y := by
  have e : Go.Proofs.Ytbpcfjhnkjobaaa.sought z k = nth k y := by rw [sought_start, hz, h.so0, Nat.min_eq_left hk]
  obtain ⟨h1, h2⟩ := seek_yes (y := z) (k := (k : Int)) (by rw [e]; exact h.pl_nth k hk)
  exact ⟨h1, h2.trans e⟩

theorem New.seek_out {y z : Sr} (h : New y) (hz : start z = y) : seekE z ((allN y + 1 : Nat) : Int) = 2 ∧ seek z ((allN y + 1 : Nat) : Int) = z := by
  have e : Go.Proofs.Ytbpcfjhnkjobaaa.sought z ((allN y + 1 : Nat) : Int) = nth (allN y) y := by rw [sought_start, hz, h.so0, Nat.min_eq_right (Nat.le_succ _)]
  exact seek_no (by rw [e, h.pl_nth _ (Nat.le_refl _)]; omega)

theorem seek_neg (z : Sr) : seekE z (-1) = 2 ∧ seek z (-1) = z := by
  have e : sought z (-1) = start z := runTo_stop (by rintro ⟨h1, _⟩; revert h1; show ¬ ((0 : Int) < -1); decide) _
  exact seek_no (by rw [e]; show ¬ ((0 : Int) = -1); decide)

theorem New.nth_fin {y : Sr} (h : New y) : ∀ k, allN y ≤ k → nth k y = fin y
  | 0, hk => by
    have : allN y = 0 := by omega
    show y = nth (allN y) y
    rw [this]; rfl
  | k + 1, hk => by
    rcases Nat.eq_or_lt_of_le hk with e | hlt
    · show _ = nth (allN y) y
      rw [e]
    · show next (nth k y) = _
      rw [h.nth_fin k (by omega)]
      exact (next_over h.spec.1).2.2
end Go.Proofs.Ytbpcfjhnkjobaaa
