/- source: Seek, the getters, new sources, drafts keep their contracts. -/
import Derived.Test.YtbpcfjhnkjobaaaP14c
import Derived.Test.YtbpcfjhnkjobaaaT14b
set_option linter.unusedSimpArgs false
namespace Go.Proofs.Ytbpcfjhnkjobaaa
open Ab

section
variable {E : Nat → Nat → Seg} {ra : Nat → Nat → Nat × Nat} {base : Nat}

theorem okSk_of {ok : Src → Bool} {s : Src} (h : ok s = true) (k : Int) : okSk ok ⟨s, ⟨s.y.it, s.y.late, 0, 0, false⟩, k⟩ = true := okSk_iff.2 ⟨h, rfl, rfl, rfl, rfl⟩

theorem seek_yes {y : Sr} {k : Int} (h : (sought y k).pl = k) : seekE y k = 0 ∧ seek y k = sought y k := by
  unfold seekE seek; rw [if_pos h, if_pos h]; exact ⟨rfl, rfl⟩
theorem seek_no {y : Sr} {k : Int} (h : ¬ (sought y k).pl = k) : seekE y k = 2 ∧ seek y k = y := by
  unfold seekE seek; rw [if_neg h, if_neg h]; exact ⟨rfl, rfl⟩

theorem seek_gives (hE : Plain E) (x : SrcK) (h : okP x.s = true) : Gives Try.prog E ra base (seekD.blks x).length 11 (seekD.args x) (hp 0 (seekD.blks x)) fun v h' => v = seekD.out x ∧ h' = hp 0 (seekD.blks' x) := by
  have hS := S1_ok (ra := ra) (base := base) hE
  have hL := L1_ok (ra := ra) (base := base) hE
  obtain ⟨⟨kd, y⟩, k⟩ := x
  rcases okP_iff.1 h with ⟨h0, h1, h2⟩ | ⟨h0, h1⟩
  · simp only at h0 h1 h2
    subst h0
    have hi := empty_of h1 h2
    obtain ⟨it, late, f, pl, over⟩ := y
    simp only at hi
    subst hi
    refine (gives_of_tree hE (W_ok hS hL) hS (hp_below _) (seek_N E ⟨.none, late, f, pl, over⟩ k) ?_).2
    have hk := okSk_of h k
    simp only at hk
    simp only [Tree.holds, decide_true, Bool.and_self, Bool.and_true, Bool.true_and, true_and, hk, decide_eq_true_eq, decide_eq_false_iff_not, Bool.not_eq_true', Bool.not_eq_false']
    refine ⟨fun a => ?_, fun a => ?_⟩
    · obtain ⟨g1, g2⟩ := seek_no a
      exact ⟨_, rfl, by simp only [seekD, seekG, g1], by simp only [seekD, seekG, Src.now, g2]; rfl⟩
    · obtain ⟨g1, g2⟩ := seek_yes a
      exact ⟨_, rfl, by simp only [seekD, seekG, g1], by simp only [seekD, seekG, Src.now, g2]; rfl⟩
  · simp only at h0 h1
    subst h0
    refine (gives_of_tree hE (W_ok hS hL) hS (hp_below _) (seek_S E y k) ?_).2
    have hk := okSk_of h k
    simp only at hk
    simp only [Tree.holds, decide_true, Bool.and_self, Bool.and_true, Bool.true_and, true_and, hk, decide_eq_true_eq, decide_eq_false_iff_not, Bool.not_eq_true', Bool.not_eq_false']
    refine ⟨fun a => ?_, fun a => ?_⟩
    · obtain ⟨g1, g2⟩ := seek_no a
      exact ⟨_, rfl, by simp only [seekD, seekG, g1], by simp only [seekD, seekG, Src.now, g2]; rfl⟩
    · obtain ⟨g1, g2⟩ := seek_yes a
      exact ⟨_, rfl, by simp only [seekD, seekG, g1], by simp only [seekD, seekG, Src.now, g2]; rfl⟩

theorem rseek_gives (hE : Plain E) (x : SrcK) (h : okR x.s = true) : Gives Try.prog E ra base (rseekD.blks x).length 12 (rseekD.args x) (hp 0 (rseekD.blks x)) fun v h' => v = rseekD.out x ∧ h' = hp 0 (rseekD.blks' x) := by
  have hS := S1_ok (ra := ra) (base := base) hE
  have hL := L1_ok (ra := ra) (base := base) hE
  obtain ⟨⟨kd, y⟩, k⟩ := x
  rcases okR_iff.1 h with ⟨h0, h1, h2⟩ | ⟨h0, h1⟩
  · simp only at h0 h1 h2
    subst h0
    have hi := empty_of h1 h2
    obtain ⟨it, late, f, pl, over⟩ := y
    simp only at hi
    subst hi
    refine (gives_of_tree hE (W_ok hS hL) hS (hp_below _) (rseek_Z E ⟨.none, late, f, pl, over⟩ k) ?_).2
    have hk := okSk_of h k
    simp only at hk
    simp only [Tree.holds, decide_true, Bool.and_self, Bool.and_true, Bool.true_and, true_and, hk, decide_eq_true_eq, decide_eq_false_iff_not, Bool.not_eq_true', Bool.not_eq_false']
    refine ⟨fun a => ?_, fun a => ?_⟩
    · obtain ⟨g1, g2⟩ := seek_no a
      exact ⟨_, rfl, by simp only [rseekD, seekG, g1], by simp only [rseekD, seekG, Src.now, g2]; rfl⟩
    · obtain ⟨g1, g2⟩ := seek_yes a
      exact ⟨_, rfl, by simp only [rseekD, seekG, g1], by simp only [rseekD, seekG, Src.now, g2]; rfl⟩
  · simp only at h0 h1
    subst h0
    refine (gives_of_tree hE (W_ok hS hL) hS (hp_below _) (rseek_S E y k) ?_).2
    have hk := okSk_of h k
    simp only at hk
    simp only [Tree.holds, decide_true, Bool.and_self, Bool.and_true, Bool.true_and, true_and, hk, decide_eq_true_eq, decide_eq_false_iff_not, Bool.not_eq_true', Bool.not_eq_false']
    refine ⟨fun a => ?_, fun a => ?_⟩
    · obtain ⟨g1, g2⟩ := seek_no a
      exact ⟨_, rfl, by simp only [rseekD, seekG, g1], by simp only [rseekD, seekG, Src.now, g2]; rfl⟩
    · obtain ⟨g1, g2⟩ := seek_yes a
      exact ⟨_, rfl, by simp only [rseekD, seekG, g1], by simp only [rseekD, seekG, Src.now, g2]; rfl⟩

theorem S2_ok (hE : Plain E) : SumsOK Try.prog E ra base S2 := by
  refine sumG_deal hE (sumG_deal hE (sumG_deal hE (sumG_deal hE (sumG_deal hE (S1_ok hE) ⟨_, Try.func17, by kernel_rfl⟩ fun s hs => ?_) ⟨_, Try.func18, by kernel_rfl⟩ fun s hs => ?_) ⟨_, Try.func19, by kernel_rfl⟩ fun s hs => ?_) ⟨_, Try.func11, by kernel_rfl⟩ fun x hx => seek_gives hE x hx) ⟨_, Try.func12, by kernel_rfl⟩ fun x hx => rseek_gives hE x hx
  · obtain ⟨kd, y⟩ := s
    rcases okP_iff.1 hs with ⟨rfl, _⟩ | ⟨rfl, _⟩
    · exact (gives_of_tree hE (W_ok sumNone_ok noL_ok) sumNone_ok (hp_below _) (front_N E y) ⟨_, rfl, rfl, rfl⟩).2
    · exact (gives_of_tree hE (W_ok sumNone_ok noL_ok) sumNone_ok (hp_below _) (front_S E y) ⟨_, rfl, rfl, rfl⟩).2
  · obtain ⟨kd, y⟩ := s
    rcases okP_iff.1 hs with ⟨rfl, _⟩ | ⟨rfl, _⟩
    · exact (gives_of_tree hE (W_ok sumNone_ok noL_ok) sumNone_ok (hp_below _) (place_N E y) ⟨_, rfl, rfl, rfl⟩).2
    · exact (gives_of_tree hE (W_ok sumNone_ok noL_ok) sumNone_ok (hp_below _) (place_S E y) ⟨_, rfl, rfl, rfl⟩).2
  · obtain ⟨kd, y⟩ := s
    rcases okP_iff.1 hs with ⟨rfl, _⟩ | ⟨rfl, _⟩
    · exact (gives_of_tree hE (W_ok sumNone_ok noL_ok) sumNone_ok (hp_below _) (over_N E y) ⟨_, rfl, rfl, rfl⟩).2
    · exact (gives_of_tree hE (W_ok sumNone_ok noL_ok) sumNone_ok (hp_below _) (over_S E y) ⟨_, rfl, rfl, rfl⟩).2

/-! ### New sources -/

theorem okNw_iff {x : Nw} : okNw x = true ↔ lensI x.it x.it.im.length = true ∧ x.m ≤ x.it.im.length ∧ ((x.full = true ∧ 0 < x.m) ∨ (x.full = false ∧ x.m = 0)) := by
  obtain ⟨full, it, m, late⟩ := x
  cases full <;> simp only [okNw, Bool.and_eq_true, decide_eq_true_eq, Bool.false_eq_true, false_and, true_and, false_or, or_false, reduceCtorEq]
  constructor
  · exact fun ⟨a, b, c⟩ => ⟨a, b, Nat.eq_of_beq_eq_true c⟩
  · exact fun ⟨a, b, c⟩ => ⟨a, b, by rw [c]; rfl⟩

theorem badNw_iff {x : Nw} : badNw x = true ↔ 1000 < x.m ∨ x.late < 0 ∨ 1073741824 < x.late := by
  simp only [badNw, Bool.or_eq_true, decide_eq_true_eq]
theorem badNw_no {x : Nw} : badNw x = false ↔ x.m ≤ 1000 ∧ 0 ≤ x.late ∧ x.late ≤ 1073741824 := by
  rw [← Bool.not_eq_true, badNw_iff]; omega

theorem take_len {x : Items} (h : lensI x x.im.length = true) {m : Nat} (hm : m ≤ x.im.length) : (x.take m).im.length = m := by
  simp only [Items.take, List.length_take]; omega

theorem full_blk {it : Items} (h : lensI it it.im.length = true) {m : Nat} (hm : m ≤ it.im.length) (late : Int) : (Sr.cells ⟨it.take m, late, 0, 0, false⟩ (sl 1 m)) = (⟨it.take m, late, 0, 0, false⟩ : Sr).cells (sl 1 m) := rfl

theorem take_blk {it : Items} {m : Nat} (hm : m ≤ it.im.length) : (it.take m).blk = .segs [⟨m, 8, [.bool (it.im.take m), .int .i64 (it.tm.take m), .int .u32 (it.ky.take m), .int .i64 (it.rt.take m), .int .i64 (it.vl.take m), .int .u8 (it.sd.take m), .bool (it.er.take m), .bool (it.lt.take m)]⟩] := by
  simp only [Items.blk, Items.take, List.length_take, Nat.min_eq_left hm]

theorem new_bad (hE : Plain E) (x : Nw) (h : okNw x = true) (hb : badNw x = true) : Gives Try.prog E ra base (newBad.blks x).length 9 (newBad.args x) (hp 0 (newBad.blks x)) fun v h' => v = .nilp ∧ h' = hp 0 (newBad.blks x) := by
  obtain ⟨full, it, m, late⟩ := x
  obtain ⟨h1, h2, h3⟩ := okNw_iff.1 h
  have hb := badNw_iff.1 hb
  simp only at h1 h2 h3 hb
  cases full with
  | false =>
    refine (gives_of_tree hE (W_ok sumNone_ok noL_ok) sumNone_ok (hp_below _) (new_N E late) ?_).2
    have : m = 0 := by simpa using h3
    simp only [Tree.holds, decide_eq_true_eq, decide_eq_false_iff_not]
    exact ⟨fun _ => ⟨_, rfl, rfl, rfl⟩, fun a => ⟨fun _ => ⟨_, rfl, rfl, rfl⟩, fun b => by omega⟩⟩
  | true =>
    have h3 : 0 < m := by simpa using h3
    refine (gives_of_tree hE (W_ok sumNone_ok noL_ok) sumNone_ok (hp_below _) (new_S E it m late) ?_).2
    simp only [Tree.holds, decide_eq_true_eq, decide_eq_false_iff_not]
    exact ⟨fun _ => ⟨_, rfl, rfl, rfl⟩, fun a => ⟨fun _ => ⟨_, rfl, rfl, rfl⟩, fun b => ⟨fun _ => ⟨_, rfl, rfl, rfl⟩, fun c => by omega⟩⟩⟩

theorem rnew_bad (hE : Plain E) (x : Nw) (h : okNw x = true) (hb : badNw x = true) : Gives Try.prog E ra base (newBad.blks x).length 10 (newBad.args x) (hp 0 (newBad.blks x)) fun v h' => v = .nilp ∧ h' = hp 0 (newBad.blks x) := by
  obtain ⟨full, it, m, late⟩ := x
  obtain ⟨h1, h2, h3⟩ := okNw_iff.1 h
  have hb := badNw_iff.1 hb
  simp only at h1 h2 h3 hb
  cases full with
  | false =>
    refine (gives_of_tree hE (W_ok sumNone_ok noL_ok) sumNone_ok (hp_below _) (rnew_N E late) ?_).2
    have : m = 0 := by simpa using h3
    simp only [Tree.holds, decide_eq_true_eq, decide_eq_false_iff_not]
    exact ⟨fun _ => ⟨_, rfl, rfl, rfl⟩, fun a => ⟨fun _ => ⟨_, rfl, rfl, rfl⟩, fun b => by omega⟩⟩
  | true =>
    have h3 : 0 < m := by simpa using h3
    refine (gives_of_tree hE (W_ok sumNone_ok noL_ok) sumNone_ok (hp_below _) (rnew_S E it m late) ?_).2
    simp only [Tree.holds, decide_eq_true_eq, decide_eq_false_iff_not]
    exact ⟨fun _ => ⟨_, rfl, rfl, rfl⟩, fun a => ⟨fun _ => ⟨_, rfl, rfl, rfl⟩, fun b => ⟨fun _ => ⟨_, rfl, rfl, rfl⟩, fun c => by omega⟩⟩⟩

theorem new_good (hE : Plain E) (x : Nw) (h : okNw x = true) (hb : badNw x = false) : (x.full = false → Gives Try.prog E ra base (newNil.blks x).length 9 (newNil.args x) (hp 0 (newNil.blks x)) fun v h' => v = newNil.out x ∧ h' = hp 0 (newNil.blks' x)) ∧
    (x.full = true → Gives Try.prog E ra base (newFull.blks x).length 9 (newFull.args x) (hp 0 (newFull.blks x)) fun v h' => v = newFull.out x ∧ h' = hp 0 (newFull.blks' x)) := by
  obtain ⟨full, it, m, late⟩ := x
  obtain ⟨h1, h2, h3⟩ := okNw_iff.1 h
  obtain ⟨b1, b2, b3⟩ := badNw_no.1 hb
  simp only at h1 h2 h3 b1 b2 b3
  constructor
  · intro hf
    simp only at hf
    subst hf
    refine (gives_of_tree hE (W_ok sumNone_ok noL_ok) sumNone_ok (hp_below _) (new_N E late) ?_).2
    simp only [Tree.holds, decide_eq_true_eq, decide_eq_false_iff_not]
    exact ⟨fun a => absurd a (by omega), fun _ => ⟨fun a => absurd a (by omega), fun _ => ⟨_, rfl, rfl, rfl⟩⟩⟩
  · intro hf
    simp only at hf
    subst hf
    have h3 : 0 < m := by simpa using h3
    refine (gives_of_tree hE (W_ok sumNone_ok noL_ok) sumNone_ok (hp_below _) (new_S E it m late) ?_).2
    have hn : Nat.ble (0 + m) 0 = false := by
      cases hh : Nat.ble (0 + m) 0 with
      | false => rfl
      | true => have := Nat.le_of_ble_eq_true hh; omega
    simp only [Tree.holds, decide_eq_true_eq, decide_eq_false_iff_not, hn, true_and]
    refine ⟨fun a => absurd a (by omega), fun _ => ⟨fun a => absurd a (by omega), fun _ => ⟨fun a => absurd a (by omega), fun _ => ⟨by omega, by omega, _, rfl, rfl, ?_⟩⟩⟩⟩
    simp only [newFull, take_blk h2, Nat.zero_add, List.drop_zero]; rfl

theorem rnew_good (hE : Plain E) (x : Nw) (h : okNw x = true) (hb : badNw x = false) : (x.full = false → Gives Try.prog E ra base (rnewNil.blks x).length 10 (rnewNil.args x) (hp 0 (rnewNil.blks x)) fun v h' => v = rnewNil.out x ∧ h' = hp 0 (rnewNil.blks' x)) ∧
    (x.full = true → Gives Try.prog E ra base (newFull.blks x).length 10 (newFull.args x) (hp 0 (newFull.blks x)) fun v h' => v = newFull.out x ∧ h' = hp 0 (newFull.blks' x)) := by
  obtain ⟨full, it, m, late⟩ := x
  obtain ⟨h1, h2, h3⟩ := okNw_iff.1 h
  obtain ⟨b1, b2, b3⟩ := badNw_no.1 hb
  simp only at h1 h2 h3 b1 b2 b3
  constructor
  · intro hf
    simp only at hf
    subst hf
    refine (gives_of_tree hE (W_ok sumNone_ok noL_ok) sumNone_ok (hp_below _) (rnew_N E late) ?_).2
    simp only [Tree.holds, decide_eq_true_eq, decide_eq_false_iff_not]
    exact ⟨fun a => absurd a (by omega), fun _ => ⟨fun a => absurd a (by omega), fun _ => ⟨_, rfl, rfl, rfl⟩⟩⟩
  · intro hf
    simp only at hf
    subst hf
    have h3 : 0 < m := by simpa using h3
    refine (gives_of_tree hE (W_ok sumNone_ok noL_ok) sumNone_ok (hp_below _) (rnew_S E it m late) ?_).2
    have hn : Nat.ble (0 + m) 0 = false := by
      cases hh : Nat.ble (0 + m) 0 with
      | false => rfl
      | true => have := Nat.le_of_ble_eq_true hh; omega
    simp only [Tree.holds, decide_eq_true_eq, decide_eq_false_iff_not, hn, true_and]
    refine ⟨fun a => absurd a (by omega), fun _ => ⟨fun a => absurd a (by omega), fun _ => ⟨fun a => absurd a (by omega), fun _ => ⟨by omega, by omega, _, rfl, rfl, ?_⟩⟩⟩⟩
    simp only [newFull, take_blk h2, Nat.zero_add, List.drop_zero]; rfl
end
end Go.Proofs.Ytbpcfjhnkjobaaa
