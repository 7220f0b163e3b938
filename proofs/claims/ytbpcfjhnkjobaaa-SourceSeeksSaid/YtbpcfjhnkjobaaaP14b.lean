/- source: the document's Next, and the rest of Next; Seek's loops. -/
import Derived.Test.YtbpcfjhnkjobaaaP14a
set_option linter.unusedSimpArgs false
namespace Go.Proofs.Ytbpcfjhnkjobaaa
open Ab

section
variable {E : Nat → Nat → Seg} {ra : Nat → Nat → Nat × Nat} {base : Nat}

theorem rnext_S_gives (hE : Plain E) (y : Sr) (h : okSr y = true) : Gives Try.prog E ra base 2 14 [.ptr (.own 0 0 0 0)] (hp 0 (Src.blks ⟨.full, y⟩)) fun v h' => v = rnextD.out ⟨.full, y⟩ ∧ h' = hp 0 (rnextD.blks' ⟨.full, y⟩) := by
  obtain ⟨h1, h2, h3, h4, h5, h6, h7, h8, h9⟩ := okSr_iff.1 h
  refine (gives_of_tree hE (W_ok sumNone_ok noL_ok) sumNone_ok (hp_below _) (rnext_S E y) ?_).2
  have hp1 := in_pl h
  have hp2 : wr .i64 (y.pl + 1 - 1) = y.pl := by rw [wr_in ⟨by omega, by omega⟩]; omega
  rw [hp1, hp2]
  simp only [Tree.holds, Nat.zero_add]
  have hw : ∀ t : Int, 0 ≤ t → t ≤ 1099511627776 → wr .i64 (t - y.late) = t - y.late := fun t a b => in_tm h a b
  generalize hmv : y.it.im.getD y.pl.toNat false = mv
  generalize htv : y.it.tm.getD y.pl.toNat 0 = tv
  generalize hrv : y.it.rt.getD y.pl.toNat 0 = rv
  have hends : y.ends = (decide (y.pl = y.it.im.length) || (mv && decide (tv = far))) := by rw [Sr.ends, hmv, htv]
  have hst : straight y y.pl.toNat = (outT rv || decide (rv < y.f)) := by rw [straight, hrv]
  cases ho : y.over with
  | true =>
    refine ⟨fun _ => ⟨_, rfl, ?_, ?_⟩, fun hh => by cases hh⟩
    · obtain ⟨g1, g2, g3⟩ := next_over ho
      simp only [rnextD, nextG, g1, g2]; rfl
    · obtain ⟨g1, g2, g3⟩ := next_over ho
      simp only [rnextD, nextG, Src.now, g3, Sr.cells, ho]; rfl
  | false =>
    have h9 := h9 ho
    refine ⟨fun hh => (by cases hh), fun _ => ⟨fun a => ?_, fun a => ?_⟩⟩
    · have a' : y.pl = y.it.im.length := by have := of_decide_eq_true a; omega
      have he : y.ends = true := by rw [hends, decide_eq_true a']; rfl
      obtain ⟨g1, g2, g3⟩ := next_ends ho he
      exact ⟨_, rfl, by simp only [rnextD, nextG, g1, g2]; rfl, by simp only [rnextD, nextG, Src.now, g3, Sr.cells]; rfl⟩
    · have hlt : y.pl < y.it.im.length := by have := of_decide_eq_false a; omega
      have a' : decide (y.pl = y.it.im.length) = false := decide_eq_false (by omega)
      refine ⟨by rw [Bool.and_eq_true]; exact ⟨decide_eq_true h7, decide_eq_true hlt⟩, decide_eq_true (by omega), fun b => ?_, fun b => ?_⟩
      · have hm : mv = true := by simpa using b
        subst hm
        refine ⟨fun c => ?_, fun c => ?_⟩
        · have he : y.ends = true := by rw [hends]; simp only [Bool.true_and, Bool.or_eq_true]; exact .inr c
          obtain ⟨g1, g2, g3⟩ := next_ends ho he
          exact ⟨_, rfl, by simp only [rnextD, nextG, g1, g2]; rfl, by simp only [rnextD, nextG, Src.now, g3, Sr.cells]; rfl⟩
        · have he : y.ends = false := by
            rw [hends, a', Bool.false_or, Bool.true_and]
            exact c
          obtain ⟨g1, g2, g3⟩ := next_mark ho he hmv
          rw [htv] at g3
          refine ⟨fun d => ⟨fun e => ?_, fun e => ?_⟩, fun d => ?_⟩
          all_goals simp only [decide_eq_true_eq, decide_eq_false_iff_not] at d
          · have e := of_decide_eq_true e
            have hq : outT tv = false := out_no.2 ⟨d, e⟩
            refine ⟨_, rfl, by simp only [rnextD, nextG, g1, g2]; rfl, ?_⟩
            simp only [rnextD, nextG, Src.now, g3, hq, Sr.cells, ho, hw tv d e, max_if]; rfl
          · have e := of_decide_eq_false e
            have hq : outT tv = true := out_iff.2 (by omega)
            exact ⟨_, rfl, by simp only [rnextD, nextG, g1, g2]; rfl, by simp only [rnextD, nextG, Src.now, g3, hq, Sr.cells, ho]; rfl⟩
          · have hq : outT tv = true := out_iff.2 (by omega)
            exact ⟨_, rfl, by simp only [rnextD, nextG, g1, g2]; rfl, by simp only [rnextD, nextG, Src.now, g3, hq, Sr.cells, ho]; rfl⟩
      · have hm : mv = false := by simpa using b
        subst hm
        have he : y.ends = false := by rw [hends, a']; rfl
        obtain ⟨g1, g2, g3⟩ := next_rec ho he hmv
        rw [hrv, hst] at g2
        rw [hst] at g1
        refine ⟨fun c => ?_, fun c => ⟨fun d => ⟨fun e => ⟨e, ?_⟩, fun e => ⟨e, fun g => ?_, fun g => ?_⟩⟩, fun d => ⟨fun e => ⟨e, ?_⟩, fun e => ⟨e, ?_⟩⟩⟩⟩
        all_goals
          simp only [decide_eq_true_eq, decide_eq_false_iff_not, Bool.not_eq_true', Bool.not_eq_false', decide_eq_decide] at *
        · have hq : outT rv = true := out_iff.2 (by omega)
          exact ⟨_, rfl, by simp only [rnextD, nextG, g1, g2, hq]; rfl, by simp only [rnextD, nextG, Src.now, g3, Sr.cells, ho]; rfl⟩
        · omega
        · have hq : outT rv = false := out_no.2 ⟨by omega, by omega⟩
          have hq2 : decide (1099511627776 < rv) = false := decide_eq_false e
          have hq3 : decide (rv < y.f) = true := decide_eq_true g
          exact ⟨_, rfl, by simp only [rnextD, nextG, g1, g2, hq, hq2, hq3]; rfl, by simp only [rnextD, nextG, Src.now, g3, Sr.cells, ho]; rfl⟩
        · have hq : outT rv = false := out_no.2 ⟨by omega, by omega⟩
          have hq2 : decide (1099511627776 < rv) = false := decide_eq_false e
          have hq3 : decide (rv < y.f) = false := decide_eq_false g
          exact ⟨_, rfl, by simp only [rnextD, nextG, g1, g2, hq, hq2, hq3]; rfl, by simp only [rnextD, nextG, Src.now, g3, Sr.cells, ho]; rfl⟩
        · have hq : outT rv = true := out_iff.2 (by omega)
          have hq2 : decide (1099511627776 < rv) = true := decide_eq_true e
          exact ⟨_, rfl, by simp only [rnextD, nextG, g1, g2, hq, hq2]; rfl, by simp only [rnextD, nextG, Src.now, g3, Sr.cells, ho]; rfl⟩
        · omega

theorem empty_of {y : Sr} (h : okSr y = true) (he : y.it.im.isEmpty = true) : y.it = .none := by
  obtain ⟨h1, _⟩ := okSr_iff.1 h
  obtain ⟨⟨a, b, c, d, e, f, g, i⟩, _, _, _, _⟩ := y
  simp only [List.isEmpty_iff] at he
  subst he
  simp only [lensI, List.length_nil, Bool.and_eq_true, decide_eq_true_eq, List.length_eq_zero_iff] at h1
  obtain ⟨_, rfl, rfl, rfl, rfl, rfl, rfl, rfl⟩ := h1
  rfl

theorem next_E {it : Items} (hi : it = .none) (late f : Int) : nextK ⟨it, late, f, 0, false⟩ = 4 ∧ nextR ⟨it, late, f, 0, false⟩ = noRec ∧ next ⟨it, late, f, 0, false⟩ = ⟨it, late, far, 1, true⟩ := by
  subst hi
  exact next_ends rfl rfl

theorem next_N_gives (hE : Plain E) (y : Sr) (h : okSr y = true) (he : y.it.im.isEmpty = true) : Gives Try.prog E ra base 1 13 [.ptr (.own 0 0 0 0)] (hp 0 (Src.blks ⟨.nil, y⟩)) fun v h' => v = nextD.out ⟨.nil, y⟩ ∧ h' = hp 0 (nextD.blks' ⟨.nil, y⟩) := by
  have hi := empty_of h he
  obtain ⟨h1, h2, h3, h4, h5, h6, h7, h8, h9⟩ := okSr_iff.1 h
  obtain ⟨it, late, f, pl, over⟩ := y
  simp only at hi h7 h8 h9
  cases over with
  | true =>
    refine (gives_of_tree hE (W_ok sumNone_ok noL_ok) sumNone_ok (hp_below _) (next_N1 E it late f pl) ?_).2
    obtain ⟨g1, g2, g3⟩ := next_over (y := ⟨it, late, f, pl, true⟩) rfl
    exact ⟨_, rfl, by simp only [nextD, nextG, g1, g2]; rfl, by simp only [nextD, nextG, Src.now, g3, Sr.cells]; rfl⟩
  | false =>
    have : pl = 0 := by
      have := h9 rfl
      subst hi
      simp only [Items.none, List.length_nil] at this
      omega
    subst this
    refine (gives_of_tree hE (W_ok sumNone_ok noL_ok) sumNone_ok (hp_below _) (next_N0 E it late f) ?_).2
    obtain ⟨g1, g2, g3⟩ := next_E hi late f
    exact ⟨_, rfl, by simp only [nextD, nextG, g1, g2]; rfl, by simp only [nextD, nextG, Src.now, g3, Sr.cells]; rfl⟩

theorem rnext_Z_gives (hE : Plain E) (y : Sr) (h : okSr y = true) (he : y.it.im.isEmpty = true) : Gives Try.prog E ra base 2 14 [.ptr (.own 0 0 0 0)] (hp 0 (Src.blks ⟨.zero, y⟩)) fun v h' => v = rnextD.out ⟨.zero, y⟩ ∧ h' = hp 0 (rnextD.blks' ⟨.zero, y⟩) := by
  have hi := empty_of h he
  obtain ⟨h1, h2, h3, h4, h5, h6, h7, h8, h9⟩ := okSr_iff.1 h
  obtain ⟨it, late, f, pl, over⟩ := y
  simp only at hi h7 h8 h9
  cases over with
  | true =>
    refine (gives_of_tree hE (W_ok sumNone_ok noL_ok) sumNone_ok (hp_below _) (rnext_Z1 E it late f pl) ?_).2
    obtain ⟨g1, g2, g3⟩ := next_over (y := ⟨it, late, f, pl, true⟩) rfl
    exact ⟨_, rfl, by simp only [rnextD, nextG, g1, g2]; rfl, by simp only [rnextD, nextG, Src.now, g3, Sr.cells]; rfl⟩
  | false =>
    have : pl = 0 := by
      have := h9 rfl
      subst hi
      simp only [Items.none, List.length_nil] at this
      omega
    subst this
    refine (gives_of_tree hE (W_ok sumNone_ok noL_ok) sumNone_ok (hp_below _) (rnext_Z0 E it late f) ?_).2
    obtain ⟨g1, g2, g3⟩ := next_E hi late f
    exact ⟨_, rfl, by simp only [rnextD, nextG, g1, g2]; rfl, by simp only [rnextD, nextG, Src.now, g3, Sr.cells]; rfl⟩

theorem okP_iff {s : Src} : okP s = true ↔ (s.kd = .nil ∧ okSr s.y = true ∧ s.y.it.im.isEmpty = true) ∨ (s.kd = .full ∧ okSr s.y = true) := by
  obtain ⟨kd, y⟩ := s
  cases kd <;> simp [okP, okSrc]
theorem okR_iff {s : Src} : okR s = true ↔ (s.kd = .zero ∧ okSr s.y = true ∧ s.y.it.im.isEmpty = true) ∨ (s.kd = .full ∧ okSr s.y = true) := by
  obtain ⟨kd, y⟩ := s
  cases kd <;> simp [okR, okSrc]

theorem S1_ok (hE : Plain E) : SumsOK Try.prog E ra base S1 := by
  refine sumG_deal hE (sumG_deal hE sumNone_ok ⟨_, Try.func13, by kernel_rfl⟩ fun s hs => ?_) ⟨_, Try.func14, by kernel_rfl⟩ fun s hs => ?_
  · obtain ⟨kd, y⟩ := s
    rcases okP_iff.1 hs with ⟨rfl, h1, h2⟩ | ⟨rfl, h1⟩
    · exact next_N_gives hE y h1 h2
    · exact next_S_gives hE y h1
  · obtain ⟨kd, y⟩ := s
    rcases okR_iff.1 hs with ⟨rfl, h1, h2⟩ | ⟨rfl, h1⟩
    · exact rnext_Z_gives hE y h1 h2
    · exact rnext_S_gives hE y h1

theorem wE (hE : Plain E) {S : Sums} (hS : SumsOK Try.prog E ra base S) : ExecOK Try.prog E ra base (W E S noL) := W_ok hS noL_ok
end
end Go.Proofs.Ytbpcfjhnkjobaaa
