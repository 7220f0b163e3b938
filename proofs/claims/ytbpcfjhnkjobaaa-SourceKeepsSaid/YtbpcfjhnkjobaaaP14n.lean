/- source: SourceKeeps: a round, as a whole. -/
import Derived.Test.YtbpcfjhnkjobaaaP14m
set_option linter.unusedSimpArgs false
namespace Go.Proofs.Ytbpcfjhnkjobaaa
open Ab

section
variable {ra : Nat → Nat → Nat × Nat} {base : Nat} {T : Tb}

theorem KpI.next {it : Items} {m : Nat} {l : Int} {y : Sr} (h : KpI it m l y) {f : Int} (hn : next y = mv y f) : KpI it m l (mv y f) := by
  have n1 := next_ok h.ok
  rw [hn] at n1
  exact ⟨n1.1, h.items, h.len, h.le, h.late, rfl⟩

theorem kp_step (hT : ToldsOK Try.prog (tabT T) ra base 0 TKE) {it : Items} {m : Nat} {l : Int} {y : Sr} (h : KpI it m l y) :
    Takes Try.prog (tabT T) ra base 0 (codeOf 4 (false :: pK)) (mkT 235 (Kp.at ⟨⟨true, it, m, y⟩, l⟩ y.f y.pl)) (hp 0 (One.blks ⟨true, it, m, y⟩)) fun z =>
      (∃ y', KpI it m l y' ∧ y'.pl = y.pl + 1 ∧ z = (.normal, mkT 235 (Kp.at ⟨⟨true, it, m, y'⟩, l⟩ y'.f y'.pl), hp 0 (One.blks ⟨true, it, m, y'⟩))) ∨ z = (.ret, mkT 235 [(4, .bool true)], hp 0 []) := by
  have hE := tabT_plain T
  have hS := S5_ok (ra := ra) (base := base) T
  obtain ⟨g1, g2, g3, g4, g5, g6, g7, g8, g9⟩ := okSr_iff.1 h.ok
  have hpl := g9 h.over
  have hm := h.len
  have hP : okP ⟨.full, y⟩ = true := okP_iff.2 (.inr ⟨rfl, h.ok⟩)
  have h0 : cOver ⟨.full, y⟩ = false := h.over
  have hle : decide (y.pl ≤ (m : Int)) = true := decide_eq_true (by omega)
  refine takes_of_treeQ hE (W_ok hS noL_ok) hT (f := 4) (.inr (by kernel_rfl)) (hp_below _) (kp_roundS T l it m y) ?_
  rw [in_pl h.ok]
  cases c1 : cEnds ⟨.full, y⟩ with
  | true =>
    have q := kp_ends h c1
    have q : lgl ⟨it, m, ⟨y.it, y.late, 1152921504606846976, y.pl + 1, true⟩, l, y.f, y.pl, ⟨0, 0, 0, 0, false, false⟩, 4⟩ = true := q
    simp only [TreeQ.holds, hle, h0, hP, c1, q, decide_true, Bool.and_self, Bool.and_true, Bool.true_and, true_and, Bool.not_true, Bool.not_false, Bool.false_eq_true, false_implies, forall_const, and_true, reduceCtorEq, Bool.true_eq_false]
    exact ⟨.inr rfl, fun hh => absurd rfl hh⟩
  | false =>
    have he : y.ends = false := c1
    have ne : ∀ k : Int, k = 4 → ¬ goesOn k := fun k hk hh => hh hk
    cases c3 : cMk ⟨.full, y⟩ with
    | true =>
      have hmk : y.it.im.getD y.pl.toNat false = true := c3
      obtain ⟨a1, a2, a3⟩ := next_mark h.over he hmk
      cases ho : outT (tmOf y) with
      | true =>
        have c2 : cIn ⟨.full, y⟩ = false := by simp only [cIn, c3, ho]; rfl
        have hn : next y = mv y y.f := by
          rw [a3]
          have ho : outT (y.it.tm.getD y.pl.toNat 0) = true := ho
          rw [ho]; rfl
        have q := kp_mark h he hmk y.f (.inl rfl) hn
        have q : lgl ⟨it, m, ⟨y.it, y.late, y.f, y.pl + 1, false⟩, l, y.f, y.pl, ⟨0, 0, 0, 0, false, false⟩, 3⟩ = true := q
        simp only [TreeQ.holds, hle, h0, hP, c1, c2, c3, q, decide_true, Bool.and_self, Bool.and_true, Bool.true_and, true_and, Bool.not_true, Bool.not_false, Bool.false_eq_true, false_implies, forall_const, and_true, reduceCtorEq, Bool.true_eq_false]
        exact ⟨.inr rfl, fun _ => .inl ⟨mv y y.f, h.next hn, rfl, rfl⟩⟩
      | false =>
        have c2 : cIn ⟨.full, y⟩ = true := by simp only [cIn, c3, ho]; rfl
        have hn : next y = mv y (max y.f (tmOf y - y.late)) := by
          rw [a3]
          have ho : outT (y.it.tm.getD y.pl.toNat 0) = false := ho
          rw [ho]; rfl
        have q := kp_mark h he hmk _ (.inr ⟨ho, rfl⟩) hn
        have q : lgl ⟨it, m, ⟨y.it, y.late, max y.f (tmOf y - y.late), y.pl + 1, false⟩, l, y.f, y.pl, ⟨0, 0, 0, 0, false, false⟩, 3⟩ = true := q
        simp only [TreeQ.holds, hle, h0, hP, c1, c2, c3, q, decide_true, Bool.and_self, Bool.and_true, Bool.true_and, true_and, Bool.not_true, Bool.not_false, Bool.false_eq_true, false_implies, forall_const, and_true, reduceCtorEq, Bool.true_eq_false]
        exact ⟨.inr rfl, fun _ => .inl ⟨mv y (max y.f (tmOf y - y.late)), h.next hn, rfl, rfl⟩⟩
    | false =>
      have hmk : y.it.im.getD y.pl.toNat false = false := c3
      have c2 : cIn ⟨.full, y⟩ = false := by simp only [cIn, c3]; rfl
      obtain ⟨a1, a2, a3⟩ := next_rec h.over he hmk
      have hn : next y = mv y y.f := a3
      have n1 := (next_ok h.ok).1
      rw [hn] at n1
      obtain ⟨k1, k2, k3, k4⟩ := kp_recs h he hmk
      have base : ∀ (r : Rec6) (k : Int), ((k = 2 ∧ lgl2 ⟨it, m, mv y y.f, l, y.f, y.pl, r, k⟩ = true) ∨ (k = 1 ∧ lgl1 ⟨it, m, mv y y.f, l, y.f, y.pl, r, k⟩ = true)) → lgl ⟨it, m, mv y y.f, l, y.f, y.pl, r, k⟩ = true := fun r k hh =>
        lgl_of n1 h.le g7 (by simp only; omega) rfl (Int.le_refl _) (by simp only; omega) (.inr (.inr hh))
      cases c4 : cErr ⟨.full, y⟩ with
      | true =>
        have ho : outT (it.rt.getD y.pl.toNat 0) = true := by rw [← k2]; exact c4
        have q : lgl ⟨it, m, mv y y.f, l, y.f, y.pl, ⟨kyOf y, y.f, 0, sdOf y, true, false⟩, 2⟩ = true := by
          refine base _ _ (.inl ⟨rfl, ?_⟩)
          simp only [lgl2, k4 ⟨kyOf y, y.f, 0, sdOf y, true, false⟩ 2 rfl rfl, Kb.rt, ho, Bool.not_true, decide_true, Bool.and_self, if_true]
        have q : lgl ⟨it, m, ⟨y.it, y.late, y.f, y.pl + 1, false⟩, l, y.f, y.pl, ⟨kyOf y, y.f, 0, sdOf y, true, false⟩, 2⟩ = true := q
        simp only [TreeQ.holds, hle, h0, hP, c1, c2, c3, c4, q, decide_true, Bool.and_self, Bool.and_true, Bool.true_and, true_and, Bool.not_true, Bool.not_false, Bool.false_eq_true, false_implies, forall_const, and_true, reduceCtorEq, Bool.true_eq_false]
        exact ⟨.inr rfl, fun _ => .inl ⟨mv y y.f, h.next hn, rfl, rfl⟩⟩
      | false =>
        have ho : outT (it.rt.getD y.pl.toNat 0) = false := by rw [← k2]; exact c4
        cases c5 : cLate ⟨.full, y⟩ with
        | true =>
          have hl : it.rt.getD y.pl.toNat 0 < y.f := by rw [← k2]; exact of_decide_eq_true c5
          have q : lgl ⟨it, m, mv y y.f, l, y.f, y.pl, ⟨kyOf y, y.f, vlOf y, sdOf y, false, true⟩, 2⟩ = true := by
            refine base _ _ (.inl ⟨rfl, ?_⟩)
            simp only [lgl2, Kb.rt, ho, hl, k3, Bool.not_false, decide_true, Bool.and_self, Bool.false_eq_true, if_false, Bool.and_true]
            exact k4 _ _ rfl rfl
          have q : lgl ⟨it, m, ⟨y.it, y.late, y.f, y.pl + 1, false⟩, l, y.f, y.pl, ⟨kyOf y, y.f, vlOf y, sdOf y, false, true⟩, 2⟩ = true := q
          simp only [TreeQ.holds, hle, h0, hP, c1, c2, c3, c4, c5, q, decide_true, Bool.and_self, Bool.and_true, Bool.true_and, true_and, Bool.not_true, Bool.not_false, Bool.false_eq_true, false_implies, forall_const, and_true, reduceCtorEq, Bool.true_eq_false]
          exact ⟨.inr rfl, fun _ => .inl ⟨mv y y.f, h.next hn, rfl, rfl⟩⟩
        | false =>
          have hl : ¬ it.rt.getD y.pl.toNat 0 < y.f := by rw [← k2]; exact of_decide_eq_false c5
          have q : lgl ⟨it, m, mv y y.f, l, y.f, y.pl, ⟨kyOf y, rtOf y, vlOf y, sdOf y, false, false⟩, 1⟩ = true := by
            refine base _ _ (.inr ⟨rfl, ?_⟩)
            simp only [lgl1, Kb.rt, ho, hl, k2, k3, Bool.not_false, decide_true, decide_false, Bool.and_self, Bool.and_true]
            refine k4 _ _ rfl rfl
          have q : lgl ⟨it, m, ⟨y.it, y.late, y.f, y.pl + 1, false⟩, l, y.f, y.pl, ⟨kyOf y, rtOf y, vlOf y, sdOf y, false, false⟩, 1⟩ = true := q
          simp only [TreeQ.holds, hle, h0, hP, c1, c2, c3, c4, c5, q, decide_true, Bool.and_self, Bool.and_true, Bool.true_and, true_and, Bool.not_true, Bool.not_false, Bool.false_eq_true, false_implies, forall_const, and_true, reduceCtorEq, Bool.true_eq_false]
          exact ⟨.inr rfl, fun _ => .inl ⟨mv y y.f, h.next hn, rfl, rfl⟩⟩
end
end Go.Proofs.Ytbpcfjhnkjobaaa
