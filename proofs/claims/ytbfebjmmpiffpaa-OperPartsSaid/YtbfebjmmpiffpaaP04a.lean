/- oper: Check, Class, drafts keep their contracts. -/
import Derived.Test.YtbfebjmmpiffpaaT04a
set_option linter.unusedSimpArgs false
set_option linter.unusedVariables false
namespace Go.Proofs.Ytbfebjmmpiffpaa
open Ab

section
variable {E : Nat → Nat → Seg} {ra : Nat → Nat → Nat × Nat} {base : Nat}

theorem wE (hE : Plain E) {S : Sums} (hS : SumsOK Try.prog E ra base S) : ExecOK Try.prog E ra base (W E S noL) := W_ok hS noL_ok

theorem kinds (k : Int) : k < 0 ∨ 7 < k ∨ k = 0 ∨ k = 1 ∨ k = 2 ∨ k = 3 ∨ k = 4 ∨ k = 5 ∨ k = 6 ∨ k = 7 := by omega

theorem may_big {k a b g : Int} (h : k < 0 ∨ 7 < k) : mayB ⟨k, a, b, g⟩ = false := by
  unfold mayB
  simp only
  rw [if_neg (by omega), if_neg (by omega), if_neg (by omega), if_neg (by omega), if_neg (by omega), if_neg (by omega), if_neg (by omega), if_neg (by omega)]

theorem e13 {x : Op4} (h : ¬ mayB x = true) : (13 : Int) = checkE x := by rw [checkE, if_neg h]
theorem e0 {x : Op4} (h : mayB x = true) : (0 : Int) = checkE x := by rw [checkE, if_pos h]

theorem slid {a b : Int} (h1 : 1 ≤ a) (h2 : a ≤ 1073741824) (h3 : 1 ≤ b) (h4 : Int.tmod a b = 0) : b ≤ a ∧ wr .i64 (4 * b) = 4 * b := by
  rw [Int.tmod_eq_emod_of_nonneg (by omega)] at h4
  have : b ≤ a := Int.le_of_dvd (by omega) (Int.dvd_of_emod_eq_zero h4)
  exact ⟨this, wr_in ⟨by omega, by omega⟩⟩


/-- the ends of Check's trees -/
def Ends (x : Op4) (y : State) : Prop := ∃ v, y.2.1 = [v] ∧ (v = .int .i64 (checkE x) ∧ y.2.2 = hp 0 [])
theorem no_end {x : Op4} (h : ¬ mayB x = true) : Ends x (.ret, mkT 1 [(0, .int .i64 13)], []) := ⟨_, rfl, congrArg _ (e13 h), rfl⟩
theorem yes_end {x : Op4} (h : mayB x = true) : Ends x (.ret, mkT 1 [(0, .int .i64 0)], []) := ⟨_, rfl, congrArg _ (e0 h), rfl⟩
/-- the ends of May's trees -/
def EndsM (x : Op4) (y : State) : Prop := ∃ v, y.2.1 = [v] ∧ (v = .bool (mayB x) ∧ y.2.2 = hp 0 [])
theorem mno_end {x : Op4} (h : ¬ mayB x = true) : EndsM x (.ret, mkT 1 [(0, .bool false)], []) := ⟨_, rfl, congrArg _ (by rw [Bool.not_eq_true] at h; exact h.symm), rfl⟩
theorem myes_end {x : Op4} (h : mayB x = true) : EndsM x (.ret, mkT 1 [(0, .bool true)], []) := ⟨_, rfl, congrArg _ h.symm, rfl⟩
theorem mthe_end {x : Op4} {c : Bool} (h : mayB x = c) : EndsM x (.ret, mkT 1 [(0, .bool c)], []) := ⟨_, rfl, congrArg _ h.symm, rfl⟩
theorem may_iff0 {a b g : Int} : mayB ⟨0, a, b, g⟩ = true ↔ g = 0 := by
  rw [show mayB ⟨0, a, b, g⟩ = decide (g = 0) from rfl]
  simp only [inZ, sizeB, Bool.and_eq_true, decide_eq_true_eq]
theorem may_iff1 {a b g : Int} : mayB ⟨1, a, b, g⟩ = true ↔ g = 0 ∧ (1 ≤ a ∧ a ≤ 4294967295) ∧ 0 ≤ b ∧ b ≤ 4294967295 := by
  rw [show mayB ⟨1, a, b, g⟩ = (decide (g = 0) && (inZ a 1 4294967295 && inZ b 0 4294967295)) from rfl]
  simp only [inZ, sizeB, Bool.and_eq_true, decide_eq_true_eq]
theorem may_iff2 {a b g : Int} : mayB ⟨2, a, b, g⟩ = true ↔ g = 0 ∧ (1 ≤ a ∧ a ≤ 1073741824) ∧ 0 ≤ b ∧ b ≤ a - 1 := by
  rw [show mayB ⟨2, a, b, g⟩ = (decide (g = 0) && (sizeB ⟨2, a, b, g⟩ && inZ b 0 (a - 1))) from rfl]
  simp only [inZ, sizeB, Bool.and_eq_true, decide_eq_true_eq]
theorem may_iff3 {a b g : Int} : mayB ⟨3, a, b, g⟩ = true ↔ g = 0 ∧ 1 ≤ a ∧ a ≤ 3 := by
  rw [show mayB ⟨3, a, b, g⟩ = (decide (g = 0) && inZ a 1 3) from rfl]
  simp only [inZ, sizeB, Bool.and_eq_true, decide_eq_true_eq]
theorem may_iff4 {a b g : Int} : mayB ⟨4, a, b, g⟩ = true ↔ (0 ≤ g ∧ g ≤ 3) ∧ (1 ≤ a ∧ a ≤ 1073741824) ∧ b = 0 := by
  rw [show mayB ⟨4, a, b, g⟩ = (inZ g 0 3 && (sizeB ⟨4, a, b, g⟩ && decide (b = 0))) from rfl]
  simp only [inZ, sizeB, Bool.and_eq_true, decide_eq_true_eq]
theorem may_iff5 {a b g : Int} : mayB ⟨5, a, b, g⟩ = true ↔ (0 ≤ g ∧ g ≤ 3) ∧ (1 ≤ a ∧ a ≤ 1073741824) ∧ 1 ≤ b ∧ Int.tmod a b = 0 ∧ a ≤ 4 * b := by
  rw [show mayB ⟨5, a, b, g⟩ = (inZ g 0 3 && (sizeB ⟨5, a, b, g⟩ && (decide (1 ≤ b) && (decide (Int.tmod a b = 0) && decide (a ≤ 4 * b))))) from rfl]
  simp only [inZ, sizeB, Bool.and_eq_true, decide_eq_true_eq]
theorem may_iff6 {a b g : Int} : mayB ⟨6, a, b, g⟩ = true ↔ (0 ≤ g ∧ g ≤ 3) ∧ (1 ≤ a ∧ a ≤ 1073741824) ∧ b = 0 := by
  rw [show mayB ⟨6, a, b, g⟩ = (inZ g 0 3 && (sizeB ⟨6, a, b, g⟩ && decide (b = 0))) from rfl]
  simp only [inZ, sizeB, Bool.and_eq_true, decide_eq_true_eq]
theorem may_iff7 {a b g : Int} : mayB ⟨7, a, b, g⟩ = true ↔ g = 0 ∧ (1 ≤ a ∧ a ≤ 1073741824) ∧ b = 0 := by
  rw [show mayB ⟨7, a, b, g⟩ = (decide (g = 0) && (sizeB ⟨7, a, b, g⟩ && decide (b = 0))) from rfl]
  simp only [inZ, sizeB, Bool.and_eq_true, decide_eq_true_eq]
theorem check_g0 (hE : Plain E) (hS : SumsOK Try.prog E ra base noS) (a b g : Int) : Gives Try.prog E ra base 0 9 [Op4.v ⟨0, a, b, g⟩] (hp 0 []) fun v h' => v = .int .i64 (checkE ⟨0, a, b, g⟩) ∧ h' = hp 0 [] := by
  refine (gives_of_tree hE (wE hE hS) hS (hp_below _) (check_0 E a b g) (Tree.holds_mono (Q := Ends ⟨0, a, b, g⟩) (fun _ h => h) ?_)).2
  have hi := may_iff0 (a := a) (b := b) (g := g)
  simp only [Tree.holds, decide_true, Bool.and_self, Bool.and_true, Bool.true_and, true_and, decide_eq_true_eq, decide_eq_false_iff_not, Bool.not_eq_true', Bool.not_eq_false']
  repeat' first
    | apply And.intro
    | intro
  all_goals first
    | exact no_end (by rw [hi]; omega)
    | exact yes_end (by rw [hi]; omega)
    | exact mno_end (by rw [hi]; omega)
    | exact myes_end (by rw [hi]; omega)
    | omega
theorem check_g1 (hE : Plain E) (hS : SumsOK Try.prog E ra base noS) (a b g : Int) : Gives Try.prog E ra base 0 9 [Op4.v ⟨1, a, b, g⟩] (hp 0 []) fun v h' => v = .int .i64 (checkE ⟨1, a, b, g⟩) ∧ h' = hp 0 [] := by
  refine (gives_of_tree hE (wE hE hS) hS (hp_below _) (check_1 E a b g) (Tree.holds_mono (Q := Ends ⟨1, a, b, g⟩) (fun _ h => h) ?_)).2
  have hi := may_iff1 (a := a) (b := b) (g := g)
  simp only [Tree.holds, decide_true, Bool.and_self, Bool.and_true, Bool.true_and, true_and, decide_eq_true_eq, decide_eq_false_iff_not, Bool.not_eq_true', Bool.not_eq_false']
  repeat' first
    | apply And.intro
    | intro
  all_goals first
    | exact no_end (by rw [hi]; omega)
    | exact yes_end (by rw [hi]; omega)
    | exact mno_end (by rw [hi]; omega)
    | exact myes_end (by rw [hi]; omega)
    | omega
theorem check_g3 (hE : Plain E) (hS : SumsOK Try.prog E ra base noS) (a b g : Int) : Gives Try.prog E ra base 0 9 [Op4.v ⟨3, a, b, g⟩] (hp 0 []) fun v h' => v = .int .i64 (checkE ⟨3, a, b, g⟩) ∧ h' = hp 0 [] := by
  refine (gives_of_tree hE (wE hE hS) hS (hp_below _) (check_3 E a b g) (Tree.holds_mono (Q := Ends ⟨3, a, b, g⟩) (fun _ h => h) ?_)).2
  have hi := may_iff3 (a := a) (b := b) (g := g)
  simp only [Tree.holds, decide_true, Bool.and_self, Bool.and_true, Bool.true_and, true_and, decide_eq_true_eq, decide_eq_false_iff_not, Bool.not_eq_true', Bool.not_eq_false']
  repeat' first
    | apply And.intro
    | intro
  all_goals first
    | exact no_end (by rw [hi]; omega)
    | exact yes_end (by rw [hi]; omega)
    | exact mno_end (by rw [hi]; omega)
    | exact myes_end (by rw [hi]; omega)
    | omega
theorem check_g4 (hE : Plain E) (hS : SumsOK Try.prog E ra base noS) (a b g : Int) : Gives Try.prog E ra base 0 9 [Op4.v ⟨4, a, b, g⟩] (hp 0 []) fun v h' => v = .int .i64 (checkE ⟨4, a, b, g⟩) ∧ h' = hp 0 [] := by
  refine (gives_of_tree hE (wE hE hS) hS (hp_below _) (check_4 E a b g) (Tree.holds_mono (Q := Ends ⟨4, a, b, g⟩) (fun _ h => h) ?_)).2
  have hi := may_iff4 (a := a) (b := b) (g := g)
  simp only [Tree.holds, decide_true, Bool.and_self, Bool.and_true, Bool.true_and, true_and, decide_eq_true_eq, decide_eq_false_iff_not, Bool.not_eq_true', Bool.not_eq_false']
  repeat' first
    | apply And.intro
    | intro
  all_goals first
    | exact no_end (by rw [hi]; omega)
    | exact yes_end (by rw [hi]; omega)
    | exact mno_end (by rw [hi]; omega)
    | exact myes_end (by rw [hi]; omega)
    | omega
theorem check_g6 (hE : Plain E) (hS : SumsOK Try.prog E ra base noS) (a b g : Int) : Gives Try.prog E ra base 0 9 [Op4.v ⟨6, a, b, g⟩] (hp 0 []) fun v h' => v = .int .i64 (checkE ⟨6, a, b, g⟩) ∧ h' = hp 0 [] := by
  refine (gives_of_tree hE (wE hE hS) hS (hp_below _) (check_6 E a b g) (Tree.holds_mono (Q := Ends ⟨6, a, b, g⟩) (fun _ h => h) ?_)).2
  have hi := may_iff6 (a := a) (b := b) (g := g)
  simp only [Tree.holds, decide_true, Bool.and_self, Bool.and_true, Bool.true_and, true_and, decide_eq_true_eq, decide_eq_false_iff_not, Bool.not_eq_true', Bool.not_eq_false']
  repeat' first
    | apply And.intro
    | intro
  all_goals first
    | exact no_end (by rw [hi]; omega)
    | exact yes_end (by rw [hi]; omega)
    | exact mno_end (by rw [hi]; omega)
    | exact myes_end (by rw [hi]; omega)
    | omega
theorem check_g7 (hE : Plain E) (hS : SumsOK Try.prog E ra base noS) (a b g : Int) : Gives Try.prog E ra base 0 9 [Op4.v ⟨7, a, b, g⟩] (hp 0 []) fun v h' => v = .int .i64 (checkE ⟨7, a, b, g⟩) ∧ h' = hp 0 [] := by
  refine (gives_of_tree hE (wE hE hS) hS (hp_below _) (check_7 E a b g) (Tree.holds_mono (Q := Ends ⟨7, a, b, g⟩) (fun _ h => h) ?_)).2
  have hi := may_iff7 (a := a) (b := b) (g := g)
  simp only [Tree.holds, decide_true, Bool.and_self, Bool.and_true, Bool.true_and, true_and, decide_eq_true_eq, decide_eq_false_iff_not, Bool.not_eq_true', Bool.not_eq_false']
  repeat' first
    | apply And.intro
    | intro
  all_goals first
    | exact no_end (by rw [hi]; omega)
    | exact yes_end (by rw [hi]; omega)
    | exact mno_end (by rw [hi]; omega)
    | exact myes_end (by rw [hi]; omega)
    | omega
theorem check_g2 (hE : Plain E) (hS : SumsOK Try.prog E ra base noS) (a b g : Int) : Gives Try.prog E ra base 0 9 [Op4.v ⟨2, a, b, g⟩] (hp 0 []) fun v h' => v = .int .i64 (checkE ⟨2, a, b, g⟩) ∧ h' = hp 0 [] := by
  refine (gives_of_tree hE (wE hE hS) hS (hp_below _) (check_2 E a b g) (Tree.holds_mono (Q := Ends ⟨2, a, b, g⟩) (fun _ h => h) ?_)).2
  have hi := may_iff2 (a := a) (b := b) (g := g)
  simp only [Tree.holds, decide_true, Bool.and_self, Bool.and_true, Bool.true_and, true_and, decide_eq_true_eq, decide_eq_false_iff_not, Bool.not_eq_true', Bool.not_eq_false']
  refine ⟨fun _ => no_end (by rw [hi]; omega), fun _ => ⟨fun _ => no_end (by rw [hi]; omega), fun _ => ⟨fun h1 => ⟨fun h2 => ?_, fun _ => no_end (by rw [hi]; omega)⟩, fun _ => no_end (by rw [hi]; omega)⟩⟩⟩
  rw [show wr .i64 (a - 1) = a - 1 from wr_in ⟨by omega, by omega⟩]
  exact ⟨fun _ => ⟨fun _ => no_end (by rw [hi]; omega), fun _ => yes_end (by rw [hi]; omega)⟩, fun _ => no_end (by rw [hi]; omega)⟩
theorem check_g5 (hE : Plain E) (hS : SumsOK Try.prog E ra base noS) (a b g : Int) : Gives Try.prog E ra base 0 9 [Op4.v ⟨5, a, b, g⟩] (hp 0 []) fun v h' => v = .int .i64 (checkE ⟨5, a, b, g⟩) ∧ h' = hp 0 [] := by
  refine (gives_of_tree hE (wE hE hS) hS (hp_below _) (check_5 E a b g) (Tree.holds_mono (Q := Ends ⟨5, a, b, g⟩) (fun _ h => h) ?_)).2
  have hi := may_iff5 (a := a) (b := b) (g := g)
  simp only [Tree.holds, decide_true, Bool.and_self, Bool.and_true, Bool.true_and, true_and, decide_eq_true_eq, decide_eq_false_iff_not, Bool.not_eq_true', Bool.not_eq_false']
  refine ⟨fun _ => no_end (by rw [hi]; omega), fun _ => ⟨fun _ => no_end (by rw [hi]; omega), fun _ => ⟨fun h1 => ⟨fun h2 => ⟨fun h3 => ⟨by omega, fun h4 => ?_, fun _ => no_end (by rw [hi]; omega)⟩, fun _ => no_end (by rw [hi]; omega)⟩, fun _ => no_end (by rw [hi]; omega)⟩, fun _ => no_end (by rw [hi]; omega)⟩⟩⟩
  rw [(slid h1 h2 h3 h4).2]
  exact ⟨fun _ => no_end (by rw [hi]; omega), fun _ => yes_end (by rw [hi]; omega)⟩
theorem check_glo (hE : Plain E) {k a b g : Int} (h : k < 0) : Gives Try.prog E ra base 0 9 [Op4.v ⟨k, a, b, g⟩] (hp 0 []) fun v h' => v = .int .i64 (checkE ⟨k, a, b, g⟩) ∧ h' = hp 0 [] := by
  refine (gives_of_tree hE (wE hE sumNone_ok) sumNone_ok (hp_below _) (check_lo E k a b g) (Tree.holds_mono (Q := Ends ⟨k, a, b, g⟩) (fun _ h => h) ?_)).2
  have hi : ¬ mayB ⟨k, a, b, g⟩ = true := by rw [may_big (.inl h)]; decide
  simp only [Tree.holds, decide_true, Bool.and_self, Bool.and_true, Bool.true_and, true_and, decide_eq_true_eq, decide_eq_false_iff_not, Bool.not_eq_true', Bool.not_eq_false']
  first
  | exact ⟨h, no_end hi⟩
  | exact ⟨by omega, h, no_end hi⟩
  | exact no_end hi
theorem check_ghi (hE : Plain E) {k a b g : Int} (h : 7 < k) : Gives Try.prog E ra base 0 9 [Op4.v ⟨k, a, b, g⟩] (hp 0 []) fun v h' => v = .int .i64 (checkE ⟨k, a, b, g⟩) ∧ h' = hp 0 [] := by
  refine (gives_of_tree hE (wE hE sumNone_ok) sumNone_ok (hp_below _) (check_hi E k a b g) (Tree.holds_mono (Q := Ends ⟨k, a, b, g⟩) (fun _ h => h) ?_)).2
  have hi : ¬ mayB ⟨k, a, b, g⟩ = true := by rw [may_big (.inr h)]; decide
  simp only [Tree.holds, decide_true, Bool.and_self, Bool.and_true, Bool.true_and, true_and, decide_eq_true_eq, decide_eq_false_iff_not, Bool.not_eq_true', Bool.not_eq_false']
  first
  | exact ⟨h, no_end hi⟩
  | exact ⟨by omega, h, no_end hi⟩
  | exact no_end hi
theorem may_g0 (hE : Plain E) (hS : SumsOK Try.prog E ra base SC) (a b g : Int) : Gives Try.prog E ra base 0 21 [Op4.v ⟨0, a, b, g⟩] (hp 0 []) fun v h' => v = .bool (mayB ⟨0, a, b, g⟩) ∧ h' = hp 0 [] := by
  refine (gives_of_tree hE (wE hE hS) hS (hp_below _) (may_0 E a b g) (Tree.holds_mono (Q := EndsM ⟨0, a, b, g⟩) (fun _ h => h) ?_)).2
  have hi := may_iff0 (a := a) (b := b) (g := g)
  simp only [Tree.holds, decide_true, Bool.and_self, Bool.and_true, Bool.true_and, true_and, decide_eq_true_eq, decide_eq_false_iff_not, Bool.not_eq_true', Bool.not_eq_false']
  repeat' first
    | apply And.intro
    | intro
  all_goals first
    | exact mno_end (by rw [hi]; omega)
    | exact myes_end (by rw [hi]; omega)
    | exact mthe_end (by rw [Bool.eq_iff_iff, hi, decide_eq_true_eq]; omega)
    | omega
theorem may_g1 (hE : Plain E) (hS : SumsOK Try.prog E ra base SC) (a b g : Int) : Gives Try.prog E ra base 0 21 [Op4.v ⟨1, a, b, g⟩] (hp 0 []) fun v h' => v = .bool (mayB ⟨1, a, b, g⟩) ∧ h' = hp 0 [] := by
  refine (gives_of_tree hE (wE hE hS) hS (hp_below _) (may_1 E a b g) (Tree.holds_mono (Q := EndsM ⟨1, a, b, g⟩) (fun _ h => h) ?_)).2
  have hi := may_iff1 (a := a) (b := b) (g := g)
  simp only [Tree.holds, decide_true, Bool.and_self, Bool.and_true, Bool.true_and, true_and, decide_eq_true_eq, decide_eq_false_iff_not, Bool.not_eq_true', Bool.not_eq_false']
  repeat' first
    | apply And.intro
    | intro
  all_goals first
    | exact mno_end (by rw [hi]; omega)
    | exact myes_end (by rw [hi]; omega)
    | exact mthe_end (by rw [Bool.eq_iff_iff, hi, decide_eq_true_eq]; omega)
    | omega
theorem may_g3 (hE : Plain E) (hS : SumsOK Try.prog E ra base SC) (a b g : Int) : Gives Try.prog E ra base 0 21 [Op4.v ⟨3, a, b, g⟩] (hp 0 []) fun v h' => v = .bool (mayB ⟨3, a, b, g⟩) ∧ h' = hp 0 [] := by
  refine (gives_of_tree hE (wE hE hS) hS (hp_below _) (may_3 E a b g) (Tree.holds_mono (Q := EndsM ⟨3, a, b, g⟩) (fun _ h => h) ?_)).2
  have hi := may_iff3 (a := a) (b := b) (g := g)
  simp only [Tree.holds, decide_true, Bool.and_self, Bool.and_true, Bool.true_and, true_and, decide_eq_true_eq, decide_eq_false_iff_not, Bool.not_eq_true', Bool.not_eq_false']
  repeat' first
    | apply And.intro
    | intro
  all_goals first
    | exact mno_end (by rw [hi]; omega)
    | exact myes_end (by rw [hi]; omega)
    | exact mthe_end (by rw [Bool.eq_iff_iff, hi, decide_eq_true_eq]; omega)
    | omega
theorem may_g4 (hE : Plain E) (hS : SumsOK Try.prog E ra base SC) (a b g : Int) : Gives Try.prog E ra base 0 21 [Op4.v ⟨4, a, b, g⟩] (hp 0 []) fun v h' => v = .bool (mayB ⟨4, a, b, g⟩) ∧ h' = hp 0 [] := by
  refine (gives_of_tree hE (wE hE hS) hS (hp_below _) (may_4 E a b g) (Tree.holds_mono (Q := EndsM ⟨4, a, b, g⟩) (fun _ h => h) ?_)).2
  have hi := may_iff4 (a := a) (b := b) (g := g)
  simp only [Tree.holds, decide_true, Bool.and_self, Bool.and_true, Bool.true_and, true_and, decide_eq_true_eq, decide_eq_false_iff_not, Bool.not_eq_true', Bool.not_eq_false']
  repeat' first
    | apply And.intro
    | intro
  all_goals first
    | exact mno_end (by rw [hi]; omega)
    | exact myes_end (by rw [hi]; omega)
    | exact mthe_end (by rw [Bool.eq_iff_iff, hi, decide_eq_true_eq]; omega)
    | omega
theorem may_g6 (hE : Plain E) (hS : SumsOK Try.prog E ra base SC) (a b g : Int) : Gives Try.prog E ra base 0 21 [Op4.v ⟨6, a, b, g⟩] (hp 0 []) fun v h' => v = .bool (mayB ⟨6, a, b, g⟩) ∧ h' = hp 0 [] := by
  refine (gives_of_tree hE (wE hE hS) hS (hp_below _) (may_6 E a b g) (Tree.holds_mono (Q := EndsM ⟨6, a, b, g⟩) (fun _ h => h) ?_)).2
  have hi := may_iff6 (a := a) (b := b) (g := g)
  simp only [Tree.holds, decide_true, Bool.and_self, Bool.and_true, Bool.true_and, true_and, decide_eq_true_eq, decide_eq_false_iff_not, Bool.not_eq_true', Bool.not_eq_false']
  repeat' first
    | apply And.intro
    | intro
  all_goals first
    | exact mno_end (by rw [hi]; omega)
    | exact myes_end (by rw [hi]; omega)
    | exact mthe_end (by rw [Bool.eq_iff_iff, hi, decide_eq_true_eq]; omega)
    | omega
theorem may_g7 (hE : Plain E) (hS : SumsOK Try.prog E ra base SC) (a b g : Int) : Gives Try.prog E ra base 0 21 [Op4.v ⟨7, a, b, g⟩] (hp 0 []) fun v h' => v = .bool (mayB ⟨7, a, b, g⟩) ∧ h' = hp 0 [] := by
  refine (gives_of_tree hE (wE hE hS) hS (hp_below _) (may_7 E a b g) (Tree.holds_mono (Q := EndsM ⟨7, a, b, g⟩) (fun _ h => h) ?_)).2
  have hi := may_iff7 (a := a) (b := b) (g := g)
  simp only [Tree.holds, decide_true, Bool.and_self, Bool.and_true, Bool.true_and, true_and, decide_eq_true_eq, decide_eq_false_iff_not, Bool.not_eq_true', Bool.not_eq_false']
  repeat' first
    | apply And.intro
    | intro
  all_goals first
    | exact mno_end (by rw [hi]; omega)
    | exact myes_end (by rw [hi]; omega)
    | exact mthe_end (by rw [Bool.eq_iff_iff, hi, decide_eq_true_eq]; omega)
    | omega
theorem may_g2 (hE : Plain E) (hS : SumsOK Try.prog E ra base SC) (a b g : Int) : Gives Try.prog E ra base 0 21 [Op4.v ⟨2, a, b, g⟩] (hp 0 []) fun v h' => v = .bool (mayB ⟨2, a, b, g⟩) ∧ h' = hp 0 [] := by
  refine (gives_of_tree hE (wE hE hS) hS (hp_below _) (may_2 E a b g) (Tree.holds_mono (Q := EndsM ⟨2, a, b, g⟩) (fun _ h => h) ?_)).2
  have hi := may_iff2 (a := a) (b := b) (g := g)
  simp only [Tree.holds, decide_true, Bool.and_self, Bool.and_true, Bool.true_and, true_and, decide_eq_true_eq, decide_eq_false_iff_not, Bool.not_eq_true', Bool.not_eq_false']
  refine ⟨fun _ => mno_end (by rw [hi]; omega), fun _ => ⟨by omega, by omega, fun h1 => ⟨fun h2 => ⟨fun h3 => ?_, fun _ => mno_end (by rw [hi]; omega)⟩, fun _ => mno_end (by rw [hi]; omega)⟩, fun _ => mno_end (by rw [hi]; omega)⟩⟩
  rw [show wr .i64 (a - 1) = a - 1 from wr_in ⟨by omega, by omega⟩]
  exact mthe_end (by rw [Bool.eq_iff_iff, hi, decide_eq_true_eq]; omega)
theorem slid2 {a b : Int} (h1 : 1 ≤ a) (h2 : a ≤ 1073741824) (h3 : 1 ≤ b) (h4 : Int.tmod a b = 0) : wr .i64 (Int.tdiv a b) = a / b ∧ (a / b ≤ 4 ↔ a ≤ 4 * b) := by
  have e : Int.tdiv a b = a / b := Int.tdiv_eq_ediv_of_nonneg (by omega)
  have h5 : 0 ≤ a / b := Int.ediv_nonneg (by omega) (by omega)
  have h6 : a / b ≤ a := Int.ediv_le_self b (by omega)
  rw [e]
  refine ⟨wr_in ⟨by omega, by omega⟩, ?_⟩
  rw [Int.tmod_eq_emod_of_nonneg (by omega)] at h4
  have h7 := Int.mul_ediv_cancel' (Int.dvd_of_emod_eq_zero h4)
  constructor
  · intro h
    have := Int.mul_le_mul_of_nonneg_left h (show 0 ≤ b by omega)
    omega
  · intro h
    have h8 : b * (a / b) ≤ b * 4 := by omega
    exact Int.le_of_mul_le_mul_left h8 (by omega)
theorem may_g5 (hE : Plain E) (hS : SumsOK Try.prog E ra base SC) (a b g : Int) : Gives Try.prog E ra base 0 21 [Op4.v ⟨5, a, b, g⟩] (hp 0 []) fun v h' => v = .bool (mayB ⟨5, a, b, g⟩) ∧ h' = hp 0 [] := by
  refine (gives_of_tree hE (wE hE hS) hS (hp_below _) (may_5 E a b g) (Tree.holds_mono (Q := EndsM ⟨5, a, b, g⟩) (fun _ h => h) ?_)).2
  have hi := may_iff5 (a := a) (b := b) (g := g)
  simp only [Tree.holds, decide_true, Bool.and_self, Bool.and_true, Bool.true_and, true_and, decide_eq_true_eq, decide_eq_false_iff_not, Bool.not_eq_true', Bool.not_eq_false']
  refine ⟨fun _ => mno_end (by rw [hi]; omega), fun _ => ⟨fun _ => mno_end (by rw [hi]; omega), fun _ => ⟨fun h1 => ⟨fun h2 => ⟨fun h3 => ⟨by omega, fun h4 => ⟨by omega, ?_⟩, fun _ => mno_end (by rw [hi]; omega)⟩, fun _ => mno_end (by rw [hi]; omega)⟩, fun _ => mno_end (by rw [hi]; omega)⟩, fun _ => mno_end (by rw [hi]; omega)⟩⟩⟩
  obtain ⟨q1, q2⟩ := slid2 h1 h2 (by omega) h4
  rw [q1]
  refine mthe_end ?_
  rw [Bool.eq_iff_iff, hi, decide_eq_true_eq, q2]
  omega
theorem may_glo (hE : Plain E) (hS : SumsOK Try.prog E ra base SC) {k a b g : Int} (h : k < 0) : Gives Try.prog E ra base 0 21 [Op4.v ⟨k, a, b, g⟩] (hp 0 []) fun v h' => v = .bool (mayB ⟨k, a, b, g⟩) ∧ h' = hp 0 [] := by
  refine (gives_of_tree hE (wE hE hS) hS (hp_below _) (may_lo E k a b g) (Tree.holds_mono (Q := EndsM ⟨k, a, b, g⟩) (fun _ h => h) ?_)).2
  have hi : ¬ mayB ⟨k, a, b, g⟩ = true := by rw [may_big (.inl h)]; decide
  simp only [Tree.holds, decide_true, Bool.and_self, Bool.and_true, Bool.true_and, true_and, decide_eq_true_eq, decide_eq_false_iff_not, Bool.not_eq_true', Bool.not_eq_false']
  repeat' first
    | apply And.intro
    | intro
  all_goals first
    | exact mno_end hi
    | omega
theorem class_glo (hE : Plain E) {k a b g : Int} (h : k < 0) : Gives Try.prog E ra base 0 11 [Op4.v ⟨k, a, b, g⟩] (hp 0 []) fun v h' => v = .int .i64 (classE ⟨k, a, b, g⟩) ∧ h' = hp 0 [] := by
  refine (gives_of_tree hE (wE hE sumNone_ok) sumNone_ok (hp_below _) (class_lo E k a b g) ?_).2
  have hi : classE ⟨k, a, b, g⟩ = -1 := by
    rw [classE, if_neg (by simp only; omega), if_neg (by simp only; omega), if_neg (by simp only; omega)]
  rw [hi]
  simp only [Tree.holds, decide_true, Bool.and_self, Bool.and_true, Bool.true_and, true_and, decide_eq_true_eq, decide_eq_false_iff_not, Bool.not_eq_true', Bool.not_eq_false']
  repeat' first
    | apply And.intro
    | intro
  all_goals first
    | exact ⟨_, rfl, rfl, rfl⟩
    | exact rfl
    | omega
theorem may_ghi (hE : Plain E) (hS : SumsOK Try.prog E ra base SC) {k a b g : Int} (h : 7 < k) : Gives Try.prog E ra base 0 21 [Op4.v ⟨k, a, b, g⟩] (hp 0 []) fun v h' => v = .bool (mayB ⟨k, a, b, g⟩) ∧ h' = hp 0 [] := by
  refine (gives_of_tree hE (wE hE hS) hS (hp_below _) (may_hi E k a b g) (Tree.holds_mono (Q := EndsM ⟨k, a, b, g⟩) (fun _ h => h) ?_)).2
  have hi : ¬ mayB ⟨k, a, b, g⟩ = true := by rw [may_big (.inr h)]; decide
  simp only [Tree.holds, decide_true, Bool.and_self, Bool.and_true, Bool.true_and, true_and, decide_eq_true_eq, decide_eq_false_iff_not, Bool.not_eq_true', Bool.not_eq_false']
  repeat' first
    | apply And.intro
    | intro
  all_goals first
    | exact mno_end hi
    | omega
theorem class_ghi (hE : Plain E) {k a b g : Int} (h : 7 < k) : Gives Try.prog E ra base 0 11 [Op4.v ⟨k, a, b, g⟩] (hp 0 []) fun v h' => v = .int .i64 (classE ⟨k, a, b, g⟩) ∧ h' = hp 0 [] := by
  refine (gives_of_tree hE (wE hE sumNone_ok) sumNone_ok (hp_below _) (class_hi E k a b g) ?_).2
  have hi : classE ⟨k, a, b, g⟩ = -1 := by
    rw [classE, if_neg (by simp only; omega), if_neg (by simp only; omega), if_neg (by simp only; omega)]
  rw [hi]
  simp only [Tree.holds, decide_true, Bool.and_self, Bool.and_true, Bool.true_and, true_and, decide_eq_true_eq, decide_eq_false_iff_not, Bool.not_eq_true', Bool.not_eq_false']
  repeat' first
    | apply And.intro
    | intro
  all_goals first
    | exact ⟨_, rfl, rfl, rfl⟩
    | exact rfl
    | omega
theorem class_g0 (hE : Plain E) (a b g : Int) : Gives Try.prog E ra base 0 11 [Op4.v ⟨0, a, b, g⟩] (hp 0 []) fun v h' => v = .int .i64 (classE ⟨0, a, b, g⟩) ∧ h' = hp 0 [] :=
  (gives_of_tree hE (wE hE sumNone_ok) sumNone_ok (hp_below _) (class_0 E a b g) ⟨_, rfl, rfl, rfl⟩).2
theorem class_g1 (hE : Plain E) (a b g : Int) : Gives Try.prog E ra base 0 11 [Op4.v ⟨1, a, b, g⟩] (hp 0 []) fun v h' => v = .int .i64 (classE ⟨1, a, b, g⟩) ∧ h' = hp 0 [] :=
  (gives_of_tree hE (wE hE sumNone_ok) sumNone_ok (hp_below _) (class_1 E a b g) ⟨_, rfl, rfl, rfl⟩).2
theorem class_g2 (hE : Plain E) (a b g : Int) : Gives Try.prog E ra base 0 11 [Op4.v ⟨2, a, b, g⟩] (hp 0 []) fun v h' => v = .int .i64 (classE ⟨2, a, b, g⟩) ∧ h' = hp 0 [] :=
  (gives_of_tree hE (wE hE sumNone_ok) sumNone_ok (hp_below _) (class_2 E a b g) ⟨_, rfl, rfl, rfl⟩).2
theorem class_g3 (hE : Plain E) (a b g : Int) : Gives Try.prog E ra base 0 11 [Op4.v ⟨3, a, b, g⟩] (hp 0 []) fun v h' => v = .int .i64 (classE ⟨3, a, b, g⟩) ∧ h' = hp 0 [] :=
  (gives_of_tree hE (wE hE sumNone_ok) sumNone_ok (hp_below _) (class_3 E a b g) ⟨_, rfl, rfl, rfl⟩).2
theorem class_g4 (hE : Plain E) (a b g : Int) : Gives Try.prog E ra base 0 11 [Op4.v ⟨4, a, b, g⟩] (hp 0 []) fun v h' => v = .int .i64 (classE ⟨4, a, b, g⟩) ∧ h' = hp 0 [] :=
  (gives_of_tree hE (wE hE sumNone_ok) sumNone_ok (hp_below _) (class_4 E a b g) ⟨_, rfl, rfl, rfl⟩).2
theorem class_g5 (hE : Plain E) (a b g : Int) : Gives Try.prog E ra base 0 11 [Op4.v ⟨5, a, b, g⟩] (hp 0 []) fun v h' => v = .int .i64 (classE ⟨5, a, b, g⟩) ∧ h' = hp 0 [] :=
  (gives_of_tree hE (wE hE sumNone_ok) sumNone_ok (hp_below _) (class_5 E a b g) ⟨_, rfl, rfl, rfl⟩).2
theorem class_g6 (hE : Plain E) (a b g : Int) : Gives Try.prog E ra base 0 11 [Op4.v ⟨6, a, b, g⟩] (hp 0 []) fun v h' => v = .int .i64 (classE ⟨6, a, b, g⟩) ∧ h' = hp 0 [] :=
  (gives_of_tree hE (wE hE sumNone_ok) sumNone_ok (hp_below _) (class_6 E a b g) ⟨_, rfl, rfl, rfl⟩).2
theorem class_g7 (hE : Plain E) (a b g : Int) : Gives Try.prog E ra base 0 11 [Op4.v ⟨7, a, b, g⟩] (hp 0 []) fun v h' => v = .int .i64 (classE ⟨7, a, b, g⟩) ∧ h' = hp 0 [] :=
  (gives_of_tree hE (wE hE sumNone_ok) sumNone_ok (hp_below _) (class_7 E a b g) ⟨_, rfl, rfl, rfl⟩).2
theorem rclass_g (hE : Plain E) (x : Op4) : Gives Try.prog E ra base 0 12 [x.v] (hp 0 []) fun v h' => v = .int .i64 (classE x) ∧ h' = hp 0 [] := by
  obtain ⟨k, a, b, g⟩ := x
  refine (gives_of_tree hE (wE hE sumNone_ok) sumNone_ok (hp_below _) (rclass E k a b g) (Tree.holds_mono (Q := fun y => ∃ c, y = (.ret, mkT 1 [(0, .int .i64 c)], []) ∧ c = classE ⟨k, a, b, g⟩) (fun y h => by obtain ⟨c, rfl, rfl⟩ := h; exact ⟨_, rfl, rfl, rfl⟩) ?_)).2
  unfold classE
  simp only [Tree.holds, decide_true, Bool.and_self, Bool.and_true, Bool.true_and, true_and, decide_eq_true_eq, decide_eq_false_iff_not, Bool.not_eq_true', Bool.not_eq_false']
  repeat' first
    | apply And.intro
    | intro
  all_goals first
    | exact ⟨_, rfl, by (repeat' split) <;> first | rfl | (exfalso; omega)⟩
    | omega
theorem check_g (hE : Plain E) (x : Op4) : Gives Try.prog E ra base 0 9 [x.v] (hp 0 []) fun v h' => v = .int .i64 (checkE x) ∧ h' = hp 0 [] := by
  obtain ⟨k, a, b, g⟩ := x
  rcases kinds k with h | h | rfl | rfl | rfl | rfl | rfl | rfl | rfl | rfl
  · exact check_glo hE h
  · exact check_ghi hE h
  · exact check_g0 hE sumNone_ok a b g
  · exact check_g1 hE sumNone_ok a b g
  · exact check_g2 hE sumNone_ok a b g
  · exact check_g3 hE sumNone_ok a b g
  · exact check_g4 hE sumNone_ok a b g
  · exact check_g5 hE sumNone_ok a b g
  · exact check_g6 hE sumNone_ok a b g
  · exact check_g7 hE sumNone_ok a b g
theorem class_g (hE : Plain E) (x : Op4) : Gives Try.prog E ra base 0 11 [x.v] (hp 0 []) fun v h' => v = .int .i64 (classE x) ∧ h' = hp 0 [] := by
  obtain ⟨k, a, b, g⟩ := x
  rcases kinds k with h | h | rfl | rfl | rfl | rfl | rfl | rfl | rfl | rfl
  · exact class_glo hE h
  · exact class_ghi hE h
  · exact class_g0 hE a b g
  · exact class_g1 hE a b g
  · exact class_g2 hE a b g
  · exact class_g3 hE a b g
  · exact class_g4 hE a b g
  · exact class_g5 hE a b g
  · exact class_g6 hE a b g
  · exact class_g7 hE a b g
theorem SC_ok (hE : Plain E) : SumsOK Try.prog E ra base SC := sumG_deal hE sumNone_ok ⟨_, Try.func12, by kernel_rfl⟩ fun x _ => rclass_g hE x
theorem may_g (hE : Plain E) (x : Op4) : Gives Try.prog E ra base 0 21 [x.v] (hp 0 []) fun v h' => v = .bool (mayB x) ∧ h' = hp 0 [] := by
  have hS := SC_ok (ra := ra) (base := base) hE
  obtain ⟨k, a, b, g⟩ := x
  rcases kinds k with h | h | rfl | rfl | rfl | rfl | rfl | rfl | rfl | rfl
  · exact may_glo hE hS h
  · exact may_ghi hE hS h
  · exact may_g0 hE hS a b g
  · exact may_g1 hE hS a b g
  · exact may_g2 hE hS a b g
  · exact may_g3 hE hS a b g
  · exact may_g4 hE hS a b g
  · exact may_g5 hE hS a b g
  · exact may_g6 hE hS a b g
  · exact may_g7 hE hS a b g
end
end Go.Proofs.Ytbfebjmmpiffpaa
