/- source: Seek's loops, and Seek, keep their contracts; the getters. -/
import Derived.Test.YtbpcfjhnkjobaaaP14b
set_option linter.unusedSimpArgs false
namespace Go.Proofs.Ytbpcfjhnkjobaaa
open Ab

theorem nextK_zero {y : Sr} : nextK y = 0 ↔ y.over = true := by
  constructor
  · intro h
    cases ho : y.over with
    | true => rfl
    | false =>
      exfalso
      cases he : y.ends with
      | true => rw [(next_ends ho he).1] at h; omega
      | false =>
        cases hm : y.it.im.getD y.pl.toNat false with
        | true => rw [(next_mark ho he hm).1] at h; omega
        | false =>
          rw [(next_rec ho he hm).1] at h
          split at h <;> omega
  · exact fun h => (next_over h).1

theorem runTo_stop {k : Int} {y : Sr} (h : ¬ (y.pl < k ∧ y.over = false)) : ∀ m, runTo k m y = y
  | 0 => rfl
  | m + 1 => by rw [runTo, if_neg h]

theorem next_pl {y : Sr} (h : y.over = false) : (next y).pl = y.pl + 1 := by
  cases he : y.ends with
  | true => rw [(next_ends h he).2.2]
  | false =>
    cases hm : y.it.im.getD y.pl.toNat false with
    | true => rw [(next_mark h he hm).2.2]
    | false => rw [(next_rec h he hm).2.2]

theorem start_ok {y : Sr} (h : okSr y = true) : okSr (start y) = true := by
  obtain ⟨h1, h2, h3, h4, h5, h6, h7, h8, h9⟩ := okSr_iff.1 h
  exact okSr_iff.2 ⟨h1, h2, h3, h4, Int.le_refl _, by show (0 : Int) ≤ far; decide, Int.le_refl _, by simp only [start]; omega, fun _ => by simp only [start]; omega⟩

theorem runTo_ok (k : Int) : ∀ (m : Nat) {y : Sr}, okSr y = true → okSr (runTo k m y) = true ∧ (runTo k m y).it = y.it ∧ (runTo k m y).late = y.late
  | 0, y, h => ⟨h, rfl, rfl⟩
  | m + 1, y, h => by
    rw [runTo]
    split
    · obtain ⟨h1, h2, h3⟩ := next_ok h
      obtain ⟨g1, g2, g3⟩ := runTo_ok k m h1
      exact ⟨g1, g2.trans h2, g3.trans h3⟩
    · exact ⟨h, rfl, rfl⟩

theorem sought_ok (k : Int) {y : Sr} (h : okSr y = true) : okSr (sought y k) = true ∧ (sought y k).it = y.it ∧ (sought y k).late = y.late := runTo_ok k _ (start_ok h)

theorem seek_ok (k : Int) {y : Sr} (h : okSr y = true) : okSr (seek y k) = true ∧ (seek y k).it = y.it ∧ (seek y k).late = y.late := by
  unfold seek
  split
  · exact sought_ok k h
  · exact ⟨h, rfl, rfl⟩

section
variable {E : Nat → Nat → Seg} {ra : Nat → Nat → Nat × Nat} {base : Nat}

def skOut (k : Int) : List (Nat × AVal) := [(0, .ptr (.own 0 0 0 0)), (1, .int .i64 k), (5, .ptr (.own 1 0 0 0))]

theorem sk_step (hE : Plain E) {s : Src} (hs : okP s = true) {t : Sr} (ht : okSr t = true) (hit : t.it = s.y.it) (k : Int) :
    Takes Try.prog E ra base (Sk.blks ⟨s, t, k⟩).length (codeOf 11 [false, false, false, true, true, true, true]) (mkT 41 (Sk.ins ⟨s, t, k⟩)) (hp 0 (Sk.blks ⟨s, t, k⟩)) fun z =>
      ((t.pl < k ∧ t.over = false) ∧ z = (.normal, mkT 41 (Sk.ins ⟨s, next t, k⟩), hp 0 (Sk.blks ⟨s, next t, k⟩))) ∨ (¬ (t.pl < k ∧ t.over = false) ∧ z = (.exit 0, mkT 41 (skOut k), hp 0 (Sk.blks ⟨s, t, k⟩))) := by
  have hS := S1_ok (ra := ra) (base := base) hE
  obtain ⟨kd, y⟩ := s
  obtain ⟨it, late, f, pl, over⟩ := t
  simp only at hit
  have hz := nextK_zero (y := ⟨it, late, f, pl, over⟩)
  have hov := fun h => (next_over (y := ⟨it, late, f, pl, over⟩) h).2.2
  rcases okP_iff.1 hs with ⟨h0, h1, h2⟩ | ⟨h0, h1⟩
  · simp only at h0 h1 h2
    subst h0
    have hi := empty_of h1 h2
    have hok : okSrc ⟨.nil, ⟨it, late, f, pl, over⟩⟩ = true := by
      rw [okSrc, ht, hit]; exact h2
    rw [hi] at hit
    subst hit
    refine takes_of_tree hE (wE hE hS) (f := 11) (.inr (by kernel_rfl)) (hp_below _) (sk_round_N E y ⟨.none, late, f, pl, over⟩ k) ?_
    simp only [Tree.holds, decide_true, Bool.and_self, Bool.and_true, Bool.true_and, true_and, hok, decide_eq_true_eq, decide_eq_false_iff_not, Bool.not_eq_true', Bool.not_eq_false', hz, Bool.not_eq_true]
    refine ⟨fun a => ⟨fun b => .inl ⟨⟨a, b⟩, rfl⟩, fun b => .inr ⟨fun hh => by rw [b] at hh; exact absurd hh.2 (by decide), ?_⟩⟩, fun a => .inr ⟨fun hh => a hh.1, rfl⟩⟩
    rw [hov b]; rfl
  · simp only at h0 h1
    subst h0
    subst hit
    have hok : okSrc ⟨.full, ⟨y.it, late, f, pl, over⟩⟩ = true := by rw [okSrc, ht]; rfl
    refine takes_of_tree hE (wE hE hS) (f := 11) (.inr (by kernel_rfl)) (hp_below _) (sk_round_S E y ⟨y.it, late, f, pl, over⟩ k) ?_
    simp only [Tree.holds, decide_true, Bool.and_self, Bool.and_true, Bool.true_and, true_and, hok, decide_eq_true_eq, decide_eq_false_iff_not, Bool.not_eq_true', Bool.not_eq_false', hz, Bool.not_eq_true]
    refine ⟨fun a => ⟨fun b => .inl ⟨⟨a, b⟩, rfl⟩, fun b => .inr ⟨fun hh => by rw [b] at hh; exact absurd hh.2 (by decide), ?_⟩⟩, fun a => .inr ⟨fun hh => a hh.1, rfl⟩⟩
    rw [hov b]; rfl

theorem rsk_step (hE : Plain E) {s : Src} (hs : okR s = true) {t : Sr} (ht : okSr t = true) (hit : t.it = s.y.it) (k : Int) :
    Takes Try.prog E ra base (Sk.rblks ⟨s, t, k⟩).length (codeOf 12 [false, false, false, true, true]) (mkT 42 (Sk.rins ⟨s, t, k⟩)) (hp 0 (Sk.rblks ⟨s, t, k⟩)) fun z =>
      ((t.pl < k ∧ t.over = false) ∧ z = (.normal, mkT 42 (Sk.rins ⟨s, next t, k⟩), hp 0 (Sk.rblks ⟨s, next t, k⟩))) ∨ (¬ (t.pl < k ∧ t.over = false) ∧ z = (.exit 0, mkT 42 (skOut k), hp 0 (Sk.rblks ⟨s, t, k⟩))) := by
  have hS := S1_ok (ra := ra) (base := base) hE
  obtain ⟨kd, y⟩ := s
  obtain ⟨it, late, f, pl, over⟩ := t
  simp only at hit
  rcases okR_iff.1 hs with ⟨h0, h1, h2⟩ | ⟨h0, h1⟩
  · simp only at h0 h1 h2
    subst h0
    have hi := empty_of h1 h2
    have hok : okSrc ⟨.zero, ⟨it, late, f, pl, over⟩⟩ = true := by
      rw [okSrc, ht, hit]; exact h2
    rw [hi] at hit
    subst hit
    refine takes_of_tree hE (wE hE hS) (f := 12) (.inr (by kernel_rfl)) (hp_below _) (rsk_round_Z E y ⟨.none, late, f, pl, over⟩ k) ?_
    simp only [Tree.holds, decide_true, Bool.and_self, Bool.and_true, Bool.true_and, true_and, hok, decide_eq_true_eq, decide_eq_false_iff_not, Bool.not_eq_true', Bool.not_eq_false', Bool.not_eq_true]
    exact ⟨fun a => ⟨fun b => .inl ⟨⟨a, b⟩, rfl⟩, fun b => .inr ⟨fun hh => (by rw [b] at hh; exact absurd hh.2 (by decide)), rfl⟩⟩, fun a => .inr ⟨fun hh => a hh.1, rfl⟩⟩
  · simp only at h0 h1
    subst h0
    subst hit
    have hok : okSrc ⟨.full, ⟨y.it, late, f, pl, over⟩⟩ = true := by rw [okSrc, ht]; rfl
    refine takes_of_tree hE (wE hE hS) (f := 12) (.inr (by kernel_rfl)) (hp_below _) (rsk_round_S E y ⟨y.it, late, f, pl, over⟩ k) ?_
    simp only [Tree.holds, decide_true, Bool.and_self, Bool.and_true, Bool.true_and, true_and, hok, decide_eq_true_eq, decide_eq_false_iff_not, Bool.not_eq_true', Bool.not_eq_false', Bool.not_eq_true]
    exact ⟨fun a => ⟨fun b => .inl ⟨⟨a, b⟩, rfl⟩, fun b => .inr ⟨fun hh => (by rw [b] at hh; exact absurd hh.2 (by decide)), rfl⟩⟩, fun a => .inr ⟨fun hh => a hh.1, rfl⟩⟩

theorem okSk_iff {ok : Src → Bool} {x : Sk} : okSk ok x = true ↔ ok x.s = true ∧ x.t.late = x.s.y.late ∧ x.t.pl = 0 ∧ x.t.f = 0 ∧ x.t.over = false := by
  simp only [okSk, Bool.and_eq_true, decide_eq_true_eq, Bool.not_eq_true']

theorem ok_of_P {s : Src} (h : okP s = true) : okSr s.y = true := by
  rcases okP_iff.1 h with ⟨_, h, _⟩ | ⟨_, h⟩ <;> exact h
theorem ok_of_R {s : Src} (h : okR s = true) : okSr s.y = true := by
  rcases okR_iff.1 h with ⟨_, h, _⟩ | ⟨_, h⟩ <;> exact h

theorem sk_len (s : Src) (t t' : Sr) (k : Int) : (Sk.blks ⟨s, t, k⟩).length = (Sk.blks ⟨s, t', k⟩).length := by simp [Sk.blks]
theorem rsk_len (s : Src) (t t' : Sr) (k : Int) : (Sk.rblks ⟨s, t, k⟩).length = (Sk.rblks ⟨s, t', k⟩).length := by simp [Sk.rblks]

/-- the new source's items do not stand in it, in memory -/
theorem cells_it {y y' : Sr} (h : y.late = y'.late ∧ y.f = y'.f ∧ y.pl = y'.pl ∧ y.over = y'.over) (V : AVal) : y.cells V = y'.cells V := by
  obtain ⟨h1, h2, h3, h4⟩ := h
  simp only [Sr.cells, h1, h2, h3, h4]

theorem runTo_go {k : Int} {m : Nat} {t : Sr} (h : t.pl < k ∧ t.over = false) (hm : (t.it.im.length : Int) + 2 ≤ t.pl + m) (ht : okSr t = true) : ∃ m', m = m' + 1 ∧ runTo k m t = runTo k m' (next t) ∧ (((next t).it.im.length : Int) + 2 ≤ (next t).pl + m') := by
  obtain ⟨h1, h2, h3, h4, h5, h6, h7, h8, h9⟩ := okSr_iff.1 ht
  have := h9 h.2
  cases m with
  | zero => omega
  | succ m =>
    refine ⟨m, rfl, by rw [runTo, if_pos h], ?_⟩
    rw [(next_ok ht).2.1, next_pl h.2]
    omega

theorem L1_ok (hE : Plain E) : LoopsOK Try.prog E ra base L1 := by
  refine sumLG_deal hE (sumLG_deal hE noL_ok rfl (c := codeOf 12 [false, false, false, true, true]) (by kernel_rfl) (fun _ => rfl) fun x hx => ?_) rfl (c := codeOf 11 [false, false, false, true, true, true, true]) (by kernel_rfl) (fun _ => rfl) fun x hx => ?_
  · obtain ⟨s, t, k⟩ := x
    obtain ⟨h1, h2, h3, h4, h5⟩ := okSk_iff.1 hx
    simp only at h1 h2 h3 h4 h5
    have hy := ok_of_R h1
    have e0 : t.cells (s.vs 2) = (start s.y).cells (s.vs 2) := cells_it (y' := start s.y) ⟨h2, h4, h3, h5⟩ _
    have hb : rskL.blks ⟨s, t, k⟩ = Sk.rblks ⟨s, start s.y, k⟩ := by simp only [rskL, Sk.rblks, e0]
    rw [hb]
    refine takes_loop (fun j ts h => ∃ (t : Sr) (m : Nat), j = m + 1 ∧ okSr t = true ∧ t.it = s.y.it ∧ runTo k m t = sought s.y k ∧ ((t.it.im.length : Int) + 2 ≤ t.pl + m) ∧ ts = mkT 42 (Sk.rins ⟨s, t, k⟩) ∧ h = hp 0 (Sk.rblks ⟨s, t, k⟩)) (fun ts h => by rintro ⟨_, _, h, _⟩; omega) (fun j ts h' => ?_)
      (j := s.y.it.im.length + 2 + 1) ⟨start s.y, s.y.it.im.length + 2, rfl, start_ok hy, rfl, rfl, by simp only [start]; omega, rfl, rfl⟩
    rintro ⟨t, m, g1, g2, g3, g4, g5, rfl, rfl⟩
    have := rsk_step (ra := ra) (base := base) hE h1 g2 g3 k
    rw [rsk_len s t (start s.y) k] at this
    refine this.mono ?_
    rintro z (⟨q1, rfl⟩ | ⟨q1, rfl⟩)
    · obtain ⟨m', e1, e2, e3⟩ := runTo_go q1 g5 g2
      exact ⟨next t, m', by omega, (next_ok g2).1, (next_ok g2).2.1.trans g3, by rw [← e2, g4], e3, rfl, rfl⟩
    · rw [runTo_stop q1] at g4
      subst g4
      rfl
  · obtain ⟨s, t, k⟩ := x
    obtain ⟨h1, h2, h3, h4, h5⟩ := okSk_iff.1 hx
    simp only at h1 h2 h3 h4 h5
    have hy := ok_of_P h1
    have e0 : t.cells (s.vs 2) = (start s.y).cells (s.vs 2) := cells_it (y' := start s.y) ⟨h2, h4, h3, h5⟩ _
    have hb : skL.blks ⟨s, t, k⟩ = Sk.blks ⟨s, start s.y, k⟩ := by simp only [skL, Sk.blks, e0]
    rw [hb]
    refine takes_loop (fun j ts h => ∃ (t : Sr) (m : Nat), j = m + 1 ∧ okSr t = true ∧ t.it = s.y.it ∧ runTo k m t = sought s.y k ∧ ((t.it.im.length : Int) + 2 ≤ t.pl + m) ∧ ts = mkT 41 (Sk.ins ⟨s, t, k⟩) ∧ h = hp 0 (Sk.blks ⟨s, t, k⟩)) (fun ts h => by rintro ⟨_, _, h, _⟩; omega) (fun j ts h' => ?_)
      (j := s.y.it.im.length + 2 + 1) ⟨start s.y, s.y.it.im.length + 2, rfl, start_ok hy, rfl, rfl, by simp only [start]; omega, rfl, rfl⟩
    rintro ⟨t, m, g1, g2, g3, g4, g5, rfl, rfl⟩
    have := sk_step (ra := ra) (base := base) hE h1 g2 g3 k
    rw [sk_len s t (start s.y) k] at this
    refine this.mono ?_
    rintro z (⟨q1, rfl⟩ | ⟨q1, rfl⟩)
    · obtain ⟨m', e1, e2, e3⟩ := runTo_go q1 g5 g2
      exact ⟨next t, m', by omega, (next_ok g2).1, (next_ok g2).2.1.trans g3, by rw [← e2, g4], e3, rfl, rfl⟩
    · rw [runTo_stop q1] at g4
      subst g4
      rfl
end
end Go.Proofs.Ytbpcfjhnkjobaaa
