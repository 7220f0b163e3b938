/- source: SourceLate: a greater lateness. -/
import Derived.Test.YtbpcfjhnkjobaaaP14g
import Derived.Test.YtbpcfjhnkjobaaaT14e
set_option linter.unusedSimpArgs false
namespace Go.Proofs.Ytbpcfjhnkjobaaa
open Ab

/-- the same items, the same place; the second one is later -/
structure LateR (y z : Sr) : Prop where
  it : z.it = y.it
  late : y.late ≤ z.late
  pl : z.pl = y.pl
  over : z.over = y.over
  f : z.f ≤ y.f

structure LateS (y z : Sr) : Prop where
  rel : LateR (next y) (next z)
  key : (nextR y).key = (nextR z).key
  side : (nextR y).side = (nextR z).side
  goes : nextK y = 1 → nextK z = 1 ∧ nextR y = nextR z
  strt : nextK z = 2 → nextK y = 2
  mark : (nextK y = 3) = (nextK z = 3)
  ends : (nextK y = 4) = (nextK z = 4)
  err : (nextR y).err = (nextR z).err

theorem late_step {y z : Sr} (h : LateR y z) : LateS y z := by
  obtain ⟨it, late, f, pl, over⟩ := y
  obtain ⟨it', late', f', pl', over'⟩ := z
  obtain ⟨h1, h2, h3, h4, h5⟩ := h
  simp only at h1 h2 h3 h4 h5
  subst h1; subst h3; subst h4
  cases over' with
  | true =>
    obtain ⟨a1, a2, a3⟩ := next_over (y := ⟨it', late, f, pl', true⟩) rfl
    obtain ⟨b1, b2, b3⟩ := next_over (y := ⟨it', late', f', pl', true⟩) rfl
    exact ⟨by rw [a3, b3]; exact ⟨rfl, h2, rfl, rfl, h5⟩, by rw [a2, b2], by rw [a2, b2], fun h => by rw [a1] at h; omega, fun h => by rw [b1] at h; omega, by rw [a1, b1], by rw [a1, b1], by rw [a2, b2]⟩
  | false =>
    cases he : (⟨it', late, f, pl', false⟩ : Sr).ends with
    | true =>
      have he' : (⟨it', late', f', pl', false⟩ : Sr).ends = true := he
      obtain ⟨a1, a2, a3⟩ := next_ends (y := ⟨it', late, f, pl', false⟩) rfl he
      obtain ⟨b1, b2, b3⟩ := next_ends (y := ⟨it', late', f', pl', false⟩) rfl he'
      exact ⟨by rw [a3, b3]; exact ⟨rfl, h2, rfl, rfl, Int.le_refl _⟩, by rw [a2, b2], by rw [a2, b2], fun h => by rw [a1] at h; omega, fun h => by rw [b1] at h; omega, by rw [a1, b1], by rw [a1, b1], by rw [a2, b2]⟩
    | false =>
      have he' : (⟨it', late', f', pl', false⟩ : Sr).ends = false := he
      cases hm : it'.im.getD pl'.toNat false with
      | true =>
        obtain ⟨a1, a2, a3⟩ := next_mark (y := ⟨it', late, f, pl', false⟩) rfl he hm
        obtain ⟨b1, b2, b3⟩ := next_mark (y := ⟨it', late', f', pl', false⟩) rfl he' hm
        refine ⟨?_, by rw [a2, b2], by rw [a2, b2], fun h => by rw [a1] at h; omega, fun h => by rw [b1] at h; omega, by rw [a1, b1], by rw [a1, b1], by rw [a2, b2]⟩
        rw [a3, b3]
        refine ⟨rfl, h2, rfl, rfl, ?_⟩
        simp only
        cases outT (it'.tm.getD pl'.toNat 0) with
        | true => exact h5
        | false =>
          simp only [Bool.false_eq_true, if_false]
          generalize it'.tm.getD pl'.toNat 0 = t
          omega
      | false =>
        obtain ⟨a1, a2, a3⟩ := next_rec (y := ⟨it', late, f, pl', false⟩) rfl he hm
        obtain ⟨b1, b2, b3⟩ := next_rec (y := ⟨it', late', f', pl', false⟩) rfl he' hm
        have a1 : nextK ⟨it', late, f, pl', false⟩ = if (outT (it'.rt.getD pl'.toNat 0) || decide ((it'.rt.getD pl'.toNat 0) < f)) = true then 2 else 1 := a1
        have b1 : nextK ⟨it', late', f', pl', false⟩ = if (outT (it'.rt.getD pl'.toNat 0) || decide ((it'.rt.getD pl'.toNat 0) < f')) = true then 2 else 1 := b1
        have a2 : nextR ⟨it', late, f, pl', false⟩ = ⟨it'.ky.getD pl'.toNat 0, if (outT (it'.rt.getD pl'.toNat 0) || decide ((it'.rt.getD pl'.toNat 0) < f)) = true then f else (it'.rt.getD pl'.toNat 0), if outT (it'.rt.getD pl'.toNat 0) = true then 0 else it'.vl.getD pl'.toNat 0, it'.sd.getD pl'.toNat 0, outT (it'.rt.getD pl'.toNat 0), !outT (it'.rt.getD pl'.toNat 0) && decide ((it'.rt.getD pl'.toNat 0) < f)⟩ := a2
        have b2 : nextR ⟨it', late', f', pl', false⟩ = ⟨it'.ky.getD pl'.toNat 0, if (outT (it'.rt.getD pl'.toNat 0) || decide ((it'.rt.getD pl'.toNat 0) < f')) = true then f' else (it'.rt.getD pl'.toNat 0), if outT (it'.rt.getD pl'.toNat 0) = true then 0 else it'.vl.getD pl'.toNat 0, it'.sd.getD pl'.toNat 0, outT (it'.rt.getD pl'.toNat 0), !outT (it'.rt.getD pl'.toNat 0) && decide ((it'.rt.getD pl'.toNat 0) < f')⟩ := b2
        have hk : ∀ b : Bool, (if b = true then (2 : Int) else 1) ≠ 3 ∧ (if b = true then (2 : Int) else 1) ≠ 4 := fun b => by cases b <;> decide
        refine ⟨by rw [a3, b3]; exact ⟨rfl, h2, rfl, rfl, h5⟩, by rw [a2, b2], by rw [a2, b2], fun h => ?_, fun h => ?_, ?_, ?_, by rw [a2, b2]⟩
        · have hs : (outT (it'.rt.getD pl'.toNat 0) || decide (it'.rt.getD pl'.toNat 0 < f)) = false := by
            cases hh : (outT (it'.rt.getD pl'.toNat 0) || decide (it'.rt.getD pl'.toNat 0 < f)) with
            | false => rfl
            | true => rw [a1, hh] at h; exact absurd h (by decide)
          have hs2 := hs
          rw [Bool.or_eq_false_iff, decide_eq_false_iff_not] at hs2
          have hs' : (outT (it'.rt.getD pl'.toNat 0) || decide (it'.rt.getD pl'.toNat 0 < f')) = false := by rw [Bool.or_eq_false_iff, decide_eq_false_iff_not]; exact ⟨hs2.1, by omega⟩
          have e1 : decide (it'.rt.getD pl'.toNat 0 < f) = false := decide_eq_false hs2.2
          have e2 : decide (it'.rt.getD pl'.toNat 0 < f') = false := decide_eq_false (by omega)
          rw [a2, b2, b1, hs, hs', e1, e2]
          exact ⟨rfl, rfl⟩
        · have hs : (outT (it'.rt.getD pl'.toNat 0) || decide (it'.rt.getD pl'.toNat 0 < f')) = true := by
            cases hh : (outT (it'.rt.getD pl'.toNat 0) || decide (it'.rt.getD pl'.toNat 0 < f')) with
            | true => rfl
            | false => rw [b1, hh] at h; exact absurd h (by decide)
          have hs' : (outT (it'.rt.getD pl'.toNat 0) || decide (it'.rt.getD pl'.toNat 0 < f)) = true := by
            rw [Bool.or_eq_true, decide_eq_true_eq] at hs ⊢
            rcases hs with hs | hs
            · exact .inl hs
            · exact .inr (by omega)
          rw [a1, hs']; rfl
        · rw [a1, b1]
          exact propext ⟨fun h => absurd h (hk _).1, fun h => absurd h (hk _).1⟩
        · rw [a1, b1]
          exact propext ⟨fun h => absurd h (hk _).2, fun h => absurd h (hk _).2⟩
end Go.Proofs.Ytbpcfjhnkjobaaa
