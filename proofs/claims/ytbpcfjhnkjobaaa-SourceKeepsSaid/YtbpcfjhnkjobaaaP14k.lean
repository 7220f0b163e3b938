/- source: Next, case by case, keeps its contracts. -/
import Derived.Test.YtbpcfjhnkjobaaaP14e
import Derived.Test.YtbpcfjhnkjobaaaD14g
set_option linter.unusedSimpArgs false
namespace Go.Proofs.Ytbpcfjhnkjobaaa
open Ab

section
variable {E : Nat → Nat → Seg} {ra : Nat → Nat → Nat × Nat} {base : Nat}

theorem next_gives (hE : Plain E) {s : Src} (hs : okP s = true) : Gives Try.prog E ra base (Src.blks s).length 13 [.ptr (.own 0 0 0 0)] (hp 0 (Src.blks s)) fun v h' => v = nextD.out s ∧ h' = hp 0 (nextD.blks' s) := by
  obtain ⟨kd, y⟩ := s
  rcases okP_iff.1 hs with ⟨rfl, h1, h2⟩ | ⟨rfl, h1⟩
  · exact next_N_gives hE y h1 h2
  · exact next_S_gives hE y h1

theorem cD_gives (hE : Plain E) {pre : Src → Bool} {r : Sr → Rec6} {k : Int} {nx : Sr → Sr} (h : ∀ s : Src, pre s = true → nextR s.y = r s.y ∧ nextK s.y = k ∧ next s.y = nx s.y) : GivesD Try.prog E ra base 13 (cD pre r k nx) := by
  intro s hs
  have hs : (okP s && pre s) = true := hs
  rw [Bool.and_eq_true] at hs
  obtain ⟨h1, h2, h3⟩ := h s hs.2
  refine (next_gives hE hs.1).mono ?_
  rintro v h' ⟨rfl, rfl⟩
  exact ⟨by simp only [nextD, nextG, cD, h1, h2], by simp only [nextD, nextG, cD, h3]⟩

theorem S5_ok (T : Tb) : SumsOK Try.prog (tabT T) ra base (S5 T) := by
  have hE := tabT_plain T
  refine sumNG_deal hE (S3_ok T) ⟨_, Try.func13, by kernel_rfl⟩ ?_ ?_
  · intro q hq
    simp only [List.mem_cons, List.not_mem_nil, or_false] at hq
    rcases hq with rfl | rfl | rfl | rfl | rfl | rfl
    · show GivesD Try.prog (tabT T) ra base 13 dOver
      unfold dOver
      refine cD_gives hE fun s h => ?_
      obtain ⟨a1, a2, a3⟩ := next_over (y := s.y) h
      exact ⟨a2, a1, a3⟩
    · show GivesD Try.prog (tabT T) ra base 13 dEnds
      unfold dEnds
      refine cD_gives hE fun s h => ?_
      simp only [cOver, cEnds, Bool.and_eq_true, Bool.not_eq_true'] at h
      obtain ⟨a1, a2, a3⟩ := next_ends h.1 h.2
      exact ⟨a2, a1, a3⟩
    · show GivesD Try.prog (tabT T) ra base 13 dIn
      unfold dIn
      refine cD_gives hE fun s h => ?_
      simp only [cOver, cEnds, cIn, cMk, tmOf, Bool.and_eq_true, Bool.not_eq_true'] at h
      obtain ⟨a1, a2, a3⟩ := next_mark h.1 h.2.1 h.2.2.1
      refine ⟨a2, a1, ?_⟩
      rw [a3, h.2.2.2]; rfl
    · show GivesD Try.prog (tabT T) ra base 13 dMk
      unfold dMk
      refine cD_gives hE fun s h => ?_
      simp only [cOver, cEnds, cIn, cMk, tmOf, Bool.and_eq_true, Bool.not_eq_true'] at h
      obtain ⟨a1, a2, a3⟩ := next_mark h.1 h.2.1 h.2.2.2
      have ho : outT (s.y.it.tm.getD s.y.pl.toNat 0) = true := by
        have := h.2.2.1
        rw [h.2.2.2, Bool.true_and, Bool.not_eq_false'] at this
        exact this
      refine ⟨a2, a1, ?_⟩
      rw [a3, ho]; rfl
    · show GivesD Try.prog (tabT T) ra base 13 dErr
      unfold dErr
      refine cD_gives hE fun s h => ?_
      simp only [cOver, cEnds, cErr, cMk, rtOf, Bool.and_eq_true, Bool.not_eq_true'] at h
      obtain ⟨a1, a2, a3⟩ := next_rec h.1 h.2.1 h.2.2.1
      have hs : straight s.y s.y.pl.toNat = true := by rw [straight, h.2.2.2]; rfl
      refine ⟨?_, by rw [a1, if_pos hs], a3⟩
      rw [a2, if_pos hs, h.2.2.2]; rfl
    · show GivesD Try.prog (tabT T) ra base 13 dLate
      unfold dLate
      refine cD_gives hE fun s h => ?_
      simp only [cOver, cEnds, cErr, cLate, cMk, rtOf, Bool.and_eq_true, Bool.not_eq_true'] at h
      obtain ⟨a1, a2, a3⟩ := next_rec h.1 h.2.1 h.2.2.1
      have hf : decide (s.y.it.rt.getD s.y.pl.toNat 0 < s.y.f) = true := h.2.2.2.2
      have hs : straight s.y s.y.pl.toNat = true := by rw [straight, h.2.2.2.1, hf]; rfl
      refine ⟨?_, by rw [a1, if_pos hs], a3⟩
      rw [a2, if_pos hs, h.2.2.2.1, hf]; rfl
  · unfold dGoes
    refine cD_gives hE fun s h => ?_
    simp only [cOver, cEnds, cErr, cLate, cMk, rtOf, Bool.and_eq_true, Bool.not_eq_true'] at h
    obtain ⟨a1, a2, a3⟩ := next_rec h.1 h.2.1 h.2.2.1
    have hf : decide (s.y.it.rt.getD s.y.pl.toNat 0 < s.y.f) = false := h.2.2.2.2
    have hs : straight s.y s.y.pl.toNat = false := by rw [straight, h.2.2.2.1, hf]; rfl
    have hs' : ¬ straight s.y s.y.pl.toNat = true := by rw [hs]; decide
    refine ⟨?_, by rw [a1, if_neg hs'], a3⟩
    rw [a2, if_neg hs', h.2.2.2.1, hf]; rfl
end
end Go.Proofs.Ytbpcfjhnkjobaaa
