/- source: SourcePlays: the steps' loop keeps its contract; the whole. -/
import Derived.Test.YtbpcfjhnkjobaaaP14e
import Derived.Test.YtbpcfjhnkjobaaaT14c
set_option linter.unusedSimpArgs false
namespace Go.Proofs.Ytbpcfjhnkjobaaa
open Ab

theorem eta {I : Items} {s : Sr} (h : s.it = I) : (⟨I, s.late, s.f, s.pl, s.over⟩ : Sr) = s := by subst h; rfl

theorem okBoth_iff {full : Bool} {y : Sr} : okBoth full y = true ↔ okSr y = true ∧ (full = false → y.it.im.isEmpty = true) := by
  cases full <;> simp [okBoth]

theorem ok_both {full : Bool} {y y' : Sr} (h : okBoth full y = true) (h' : okSr y' = true) (hi : y'.it = y.it) : okBoth full y' = true := by
  obtain ⟨h1, h2⟩ := okBoth_iff.1 h
  exact okBoth_iff.2 ⟨h', fun hh => by rw [hi]; exact h2 hh⟩

section
variable {ra : Nat → Nat → Nat × Nat} {base : Nat} {T : Tb}

theorem S4_ok (T : Tb) : SumsOK Try.prog (tabT T) ra base (S4 T) := by
  have hE := tabT_plain T
  have hS := S3_ok (ra := ra) (base := base) T
  refine sumG_deal hE hS ⟨_, Try.func15, by kernel_rfl⟩ fun x hx => ?_
  obtain ⟨full, y⟩ := x
  obtain ⟨h1, h2⟩ := okBoth_iff.1 hx
  cases full with
  | true =>
    have hp : okSrc ⟨.full, y⟩ = true := by rw [okSrc, h1]; rfl
    refine (gives_of_tree hE (wE hE hS) hS (hp_below _) (alike_S T y) ?_).2
    simp only [Tree.holds, decide_true, Bool.and_self, Bool.and_true, Bool.true_and, true_and, hp]
    exact ⟨_, rfl, rfl, rfl⟩
  | false =>
    have h2 := h2 rfl
    have hi := empty_of h1 h2
    obtain ⟨it, late, f, pl, over⟩ := y
    simp only at hi
    subst hi
    have hp : okSrc ⟨.nil, ⟨.none, late, f, pl, over⟩⟩ = true := by rw [okSrc, h1]; rfl
    refine (gives_of_tree hE (wE hE hS) hS (hp_below _) (alike_N T ⟨.none, late, f, pl, over⟩) ?_).2
    simp only [Tree.holds, decide_true, Bool.and_self, Bool.and_true, Bool.true_and, true_and, hp]
    exact ⟨_, rfl, rfl, rfl⟩

theorem steps {i : Nat} (h : i ≤ 200) : wr .i64 ((i : Int) + 1) = ((i + 1 : Nat) : Int) := by rw [wr_in ⟨by omega, by omega⟩]; omega
theorem seven {n : Nat} (h : n ≤ 1002) : wr .i64 ((n : Int) + 4) ≠ 0 := by rw [wr_in ⟨by omega, by omega⟩]; omega

def plAt (x : Thr) (full : Bool) (it : Items) (i : Int) : List (Nat × AVal) := x.ts full it ++ (bothP full ++ [(12, .int .i64 i)])

theorem pl_step {x : Thr} (hV : okV 1 T.st.length x.V = true) {full : Bool} {it : Items} (hit : it.im.length ≤ 1002) {y : Sr} (h : okBoth full y = true) {i : Nat} (hi : i ≤ 200) :
    Takes Try.prog (tabT T) ra base 0 (codeOf 3 (false :: pL)) (mkT 100 (plAt x full it i)) (hp 0 (bothB full it y)) fun z =>
      (i < 200 ∧ ∃ y', okBoth full y' = true ∧ z = (.normal, mkT 100 (plAt x full it ((i + 1 : Nat) : Int)), hp 0 (bothB full it y'))) ∨ z = (.exit 2, mkT 100 (x.ts full it), hp 0 (itB full it)) := by
  have hE := tabT_plain T
  have hS := S4_ok (ra := ra) (base := base) T
  obtain ⟨h1, h2⟩ := okBoth_iff.1 h
  obtain ⟨V, a, b, j⟩ := x
  simp only at hV
  cases full with
  | true =>
    rcases okV_cases hV with ⟨rfl, _⟩ | rfl
    · refine takes_of_tree hE (wE hE hS) (f := 3) (.inr (by kernel_rfl)) (hp_below _) (pl_roundS0 T a b j i it y) ?_
      simp only [Tree.holds, decide_eq_false_iff_not]
      exact ⟨by omega, .inr rfl⟩
    · refine takes_of_tree hE (wE hE hS) (f := 3) (.inr (by kernel_rfl)) (hp_below _) (pl_roundS T T.st.length a b j i it y) ?_
      have hP : okP ⟨.full, y⟩ = true := okP_iff.2 (.inr ⟨rfl, h1⟩)
      have hR : okR ⟨.full, y⟩ = true := okR_iff.2 (.inr ⟨rfl, h1⟩)
      have hs : okSrc ⟨.full, y⟩ = true := by rw [okSrc, h1]; rfl
      have hn := next_ok h1
      have hsk := fun k => seek_ok k h1
      have b1 : okBoth true ⟨y.it, (next y).late, (next y).f, (next y).pl, (next y).over⟩ = true := by
        rw [eta hn.2.1]; exact ok_both h hn.1 hn.2.1
      have b2 : ∀ k, okBoth true ⟨y.it, (seek y k).late, (seek y k).f, (seek y k).pl, (seek y k).over⟩ = true := fun k => by
        rw [eta (hsk k).2.1]; exact ok_both h (hsk k).1 (hsk k).2.1
      have h7 : decide (wr .i64 ((it.im.length : Int) + 4) ≠ 0) = true := decide_eq_true (seven hit)
      rw [steps hi]
      simp only [h7, toNat_nat]
      generalize Int.tmod (wr .i64 (wr .i16 (Int.tdiv (T.st.getD i 0) 8))) (wr .i64 ((it.im.length : Int) + 4)) = k
      generalize Int.tmod (T.st.getD i 0) 8 = q
      simp only [Tree.holds, decide_true, Bool.and_self, Bool.and_true, Bool.true_and, true_and, hP, hR, hs, b1, b2, Bool.not_true, decide_eq_true_eq, decide_eq_false_iff_not, Bool.and_eq_true]
      clear h7
      refine ⟨fun k1 => ⟨fun k2 => ⟨⟨by omega, k1⟩, by omega, fun _ => ⟨⟨by omega, k1⟩, by omega, .inl ⟨by omega, ⟨y.it, _, _, _, _⟩, b2 k, rfl⟩⟩, fun _ => .inl ⟨by omega, ⟨y.it, _, _, _, _⟩, b1, rfl⟩⟩, fun _ => .inr rfl⟩, fun _ => .inr rfl⟩
  | false =>
    have h2 := h2 rfl
    have hi0 := empty_of h1 h2
    obtain ⟨it', late, f, pl, over⟩ := y
    simp only at hi0
    subst hi0
    rcases okV_cases hV with ⟨rfl, _⟩ | rfl
    · refine takes_of_tree hE (wE hE hS) (f := 3) (.inr (by kernel_rfl)) (hp_below _) (pl_roundN0 T a b j i it ⟨.none, late, f, pl, over⟩) ?_
      simp only [Tree.holds, decide_eq_false_iff_not]
      exact ⟨by omega, .inr rfl⟩
    · refine takes_of_tree hE (wE hE hS) (f := 3) (.inr (by kernel_rfl)) (hp_below _) (pl_roundN T T.st.length a b j i it ⟨.none, late, f, pl, over⟩) ?_
      generalize hy : (⟨.none, late, f, pl, over⟩ : Sr) = y at *
      have hyi : y.it = .none := by rw [← hy]
      have hys : (⟨.none, y.late, y.f, y.pl, y.over⟩ : Sr) = y := eta hyi
      have hP : okP ⟨.nil, y⟩ = true := okP_iff.2 (.inl ⟨rfl, h1, h2⟩)
      have hR : okR ⟨.zero, y⟩ = true := okR_iff.2 (.inl ⟨rfl, h1, h2⟩)
      have hs : okSrc ⟨.nil, y⟩ = true := by rw [okSrc, h1]; exact h2
      have hs' : okSrc ⟨.zero, y⟩ = true := by rw [okSrc, h1]; exact h2
      have hn := next_ok h1
      have hsk := fun k => seek_ok k h1
      have b1 : okBoth false ⟨.none, (next y).late, (next y).f, (next y).pl, (next y).over⟩ = true := by
        rw [eta (hn.2.1.trans hyi)]; exact ok_both h hn.1 hn.2.1
      have b2 : ∀ k, okBoth false ⟨.none, (seek y k).late, (seek y k).f, (seek y k).pl, (seek y k).over⟩ = true := fun k => by
        rw [eta ((hsk k).2.1.trans hyi)]; exact ok_both h (hsk k).1 (hsk k).2.1
      rw [steps hi]
      simp only [hys, toNat_nat]
      generalize Int.tmod (wr .i64 (wr .i16 (Int.tdiv (T.st.getD i 0) 8))) 4 = k
      generalize Int.tmod (T.st.getD i 0) 8 = q
      simp only [Tree.holds, decide_true, Bool.and_self, Bool.and_true, Bool.true_and, true_and, hP, hR, hs, hs', b1, b2, Bool.not_true, decide_eq_true_eq, decide_eq_false_iff_not, Bool.and_eq_true]
      refine ⟨fun k1 => ⟨fun k2 => ⟨⟨by omega, k1⟩, by omega, fun _ => ⟨⟨by omega, k1⟩, by omega, .inl ⟨by omega, ⟨.none, _, _, _, _⟩, b2 k, rfl⟩⟩, fun _ => .inl ⟨by omega, ⟨.none, _, _, _, _⟩, b1, rfl⟩⟩, fun _ => .inr rfl⟩, fun _ => .inr rfl⟩
end
end Go.Proofs.Ytbpcfjhnkjobaaa
