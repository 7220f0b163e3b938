/- net: NetPlays: the loops; the whole. -/
import Derived.Test.YtohdkgdaccoohaaP19r
set_option linter.unusedSimpArgs false
set_option linter.unusedVariables false
namespace Go.Proofs.Ytohdkgdaccoohaa
open Ab

section
variable {ra : Nat → Nat → Nat × Nat} {base : Nat} {T : Tb}

/-- the state between the rounds -/
def AtP (T : Tb) (i : Nat) (ts : Tmps) (h : Log) : Prop := ∃ (y : Nt) (r : Rr), i ≤ 100 ∧ relB y r i = true ∧ ts = mkT 189 (Pl.at ⟨.slice (.ro 0 0 0 0) T.w.length none, y, r, (i : Nat)⟩) ∧ h = hp 0 (twoB y r)
def ExP (w : State) : Prop := ∃ (y : Nt) (r : Rr), relB y r 100 = true ∧ w = (.exit 0, mkT 189 [(5, .ptr (.own 0 0 0 0)), (6, .ptr (.own 1 0 0 0))], hp 0 (twoB y r))
theorem at_p {y : Nt} {r : Rr} {i : Nat} (g : relB y r i = true) (hi : i ≤ 100) : AtP T i (mkT 189 (Pl.at ⟨.slice (.ro 0 0 0 0) T.w.length none, y, r, (i : Nat)⟩)) (hp 0 (twoB y r)) := ⟨y, r, hi, g, rfl, rfl⟩
theorem ex_p {y : Nt} {c s l : Int} {f : Rf} {i : Nat} (g : relB y ⟨c, f, s, l⟩ i = true) (hi : i ≤ 100) {w : State} (hw : w = (.exit 0, mkT 189 [(5, .ptr (.own 0 0 0 0)), (6, .ptr (.own 1 0 0 0))], hp 0 (twoB y ⟨c, f, s, l⟩))) : ExP w := ⟨y, ⟨c, f, s, l⟩, rel_mono g hi, hw⟩
theorem rel_okc {y : Nt} {c s l : Int} {f : Rf} {i : Nat} (h : relB y ⟨c, f, s, l⟩ i = true) (hi : i ≤ 1000) : (decide (y.n ≤ y.xs.length) && (decide (y.xs.length ≤ 64) && (decide (4 ≤ y.xs.length) && (decide (0 ≤ y.s) && (decide (y.s ≤ 100000) && (decide (0 ≤ y.l) && decide (y.l ≤ 100000))))))) = true := by
  obtain ⟨o1, o2, o3, o4, o5, o6, o7⟩ := okNt_iff.1 (rel_nt h hi)
  simp only [Bool.and_eq_true, decide_eq_true_eq]; exact ⟨o1, o2, o3, o4, o5, o6, o7⟩

theorem pl_step_n (ht : T.t.length = T.w.length) {y : Nt} {c s' l' : Int} {i : Nat} (h : relB y ⟨c, .n, s', l'⟩ i = true) (hi : i ≤ 100) :
    Takes Try.prog (tabN T) ra base 0 (codeOf 3 (false :: qK)) (mkT 189 (Pl.at ⟨.slice (.ro 0 0 0 0) T.w.length none, y, ⟨c, .n, s', l'⟩, (i : Nat)⟩)) (hp 0 (Pl.blks ⟨.slice (.ro 0 0 0 0) T.w.length none, y, ⟨c, .n, s', l'⟩, (i : Nat)⟩))
      fun w => (w.1 = .normal ∧ i < 100 ∧ AtP T (i + 1) w.2.1 w.2.2) ∨ ExP w := by
  have hE := tabN_plain T
  have hS := S2_ok (ra := ra) (base := base) hE
  refine takes_of_treeQ hE (wE hE hS) (TA2_ok T) (f := 3) (.inr (by kernel_rfl)) (hp_below _) (pl_n T T.w.length y c s' l' i) ?_
  have c4 : decide (0 ≤ (i : Int)) = true := decide_eq_true (by omega)
  have hv : okV T (.slice (.ro 0 0 0 0) T.w.length none) = true := decide_eq_true rfl
  simp only [TreeQ.holds]
  refine ⟨fun hl1 => ⟨fun hl2 => ?_, fun _ => .inr (ex_p h hi rfl)⟩, fun _ => .inr (ex_p h hi rfl)⟩
  have k1 := of_decide_eq_true hl1
  have k2 := of_decide_eq_true hl2
  have hi2 : i < 100 := by omega
  have hi3 : i + 1 ≤ 100 := hi2
  have c3 : decide (0 + Int.toNat (i : Int) < T.w.length) = true := decide_eq_true (by omega)
  have e3 : wr .i64 ((i : Int) + 1) = ((i + 1 : Nat) : Int) := by rw [one_in ⟨by omega, by omega⟩]; rfl
  have hpw : ∀ k' w', pwB T ⟨⟨.slice (.ro 0 0 0 0) T.w.length none, y, ⟨c, .n, s', l'⟩, (i : Nat)⟩, k', w'⟩ = true := fun k' w' => by
    simp only [pwB, Bool.and_eq_true, decide_eq_true_eq, Int.toNat_natCast]
    exact ⟨hv, by omega, by omega, by omega, by omega, h⟩
  simp only [hpw, c3, c4, hl1, hl2, e3, sameCap, decide_true, Bool.and_self, Bool.and_true, Bool.true_and, true_and]
  refine ⟨?_, ?_, ?_⟩
  · rintro ⟨y', c', s2, l2, L'⟩ ha
    rw [Int.toNat_natCast] at ha
    have g : relB y' ⟨c', .n, s2, l2⟩ (i + 1) = true := ha
    have b2 := rel_okc g (by omega)
    have hn := rel_len g
    obtain ⟨g1, g2, g3, g4, g5, g6, g7, g8, g9, g10, g11, g12⟩ := relB_iff.1 g
    have q1 : decide ((y'.n : Int) = (0 : Int)) = true := decide_eq_true (by have : (.n : Rf).list.length = y'.n := hn; simp only [Rf.list, List.length_nil] at this; omega)
    have q2 : decide (y'.s = s2) = true := decide_eq_true g3.symm
    have q3 : decide (y'.l = l2) = true := decide_eq_true g4.symm
    simp only [b2, q1, q2, q3, decide_true, Bool.and_self, Bool.and_true, Bool.true_and, true_and, Bool.not_true, Bool.false_eq_true, false_implies, forall_const]
    exact .inl ⟨hi2, at_p g hi3⟩
  · rintro ⟨y', c', s2, l2, L'⟩ ha
    rw [Int.toNat_natCast] at ha
    have g : relB y' ⟨c', .e, s2, l2⟩ (i + 1) = true := ha
    have b2 := rel_okc g (by omega)
    have hn := rel_len g
    obtain ⟨g1, g2, g3, g4, g5, g6, g7, g8, g9, g10, g11, g12⟩ := relB_iff.1 g
    have q1 : decide ((y'.n : Int) = (0 : Int)) = true := decide_eq_true (by have : (.e : Rf).list.length = y'.n := hn; simp only [Rf.list, List.length_nil] at this; omega)
    have q2 : decide (y'.s = s2) = true := decide_eq_true g3.symm
    have q3 : decide (y'.l = l2) = true := decide_eq_true g4.symm
    simp only [b2, q1, q2, q3, decide_true, Bool.and_self, Bool.and_true, Bool.true_and, true_and, Bool.not_true, Bool.false_eq_true, false_implies, forall_const]
    exact .inl ⟨hi2, at_p g hi3⟩
  · rintro ⟨y', c', s2, l2, L'⟩ ha
    rw [Int.toNat_natCast] at ha
    have g : relB y' ⟨c', (.g L'), s2, l2⟩ (i + 1) = true := ha
    have b2 := rel_okc g (by omega)
    have hn := rel_len g
    obtain ⟨g1, g2, g3, g4, g5, g6, g7, g8, g9, g10, g11, g12⟩ := relB_iff.1 g
    have q1 : decide ((y'.n : Int) = ((L'.length : Nat) : Int)) = true := decide_eq_true (by have : ((.g L') : Rf).list.length = y'.n := hn; simp only [Rf.list, List.length_nil] at this; omega)
    have q2 : decide (y'.s = s2) = true := decide_eq_true g3.symm
    have q3 : decide (y'.l = l2) = true := decide_eq_true g4.symm
    simp only [b2, q1, q2, q3, decide_true, Bool.and_self, Bool.and_true, Bool.true_and, true_and, Bool.not_true, Bool.false_eq_true, false_implies, forall_const]
    exact .inl ⟨hi2, at_p g hi3⟩

theorem pl_step_e (ht : T.t.length = T.w.length) {y : Nt} {c s' l' : Int} {i : Nat} (h : relB y ⟨c, .e, s', l'⟩ i = true) (hi : i ≤ 100) :
    Takes Try.prog (tabN T) ra base 0 (codeOf 3 (false :: qK)) (mkT 189 (Pl.at ⟨.slice (.ro 0 0 0 0) T.w.length none, y, ⟨c, .e, s', l'⟩, (i : Nat)⟩)) (hp 0 (Pl.blks ⟨.slice (.ro 0 0 0 0) T.w.length none, y, ⟨c, .e, s', l'⟩, (i : Nat)⟩))
      fun w => (w.1 = .normal ∧ i < 100 ∧ AtP T (i + 1) w.2.1 w.2.2) ∨ ExP w := by
  have hE := tabN_plain T
  have hS := S2_ok (ra := ra) (base := base) hE
  refine takes_of_treeQ hE (wE hE hS) (TA2_ok T) (f := 3) (.inr (by kernel_rfl)) (hp_below _) (pl_e T T.w.length y c s' l' i) ?_
  have c4 : decide (0 ≤ (i : Int)) = true := decide_eq_true (by omega)
  have hv : okV T (.slice (.ro 0 0 0 0) T.w.length none) = true := decide_eq_true rfl
  simp only [TreeQ.holds]
  refine ⟨fun hl1 => ⟨fun hl2 => ?_, fun _ => .inr (ex_p h hi rfl)⟩, fun _ => .inr (ex_p h hi rfl)⟩
  have k1 := of_decide_eq_true hl1
  have k2 := of_decide_eq_true hl2
  have hi2 : i < 100 := by omega
  have hi3 : i + 1 ≤ 100 := hi2
  have c3 : decide (0 + Int.toNat (i : Int) < T.w.length) = true := decide_eq_true (by omega)
  have e3 : wr .i64 ((i : Int) + 1) = ((i + 1 : Nat) : Int) := by rw [one_in ⟨by omega, by omega⟩]; rfl
  have hpw : ∀ k' w', pwB T ⟨⟨.slice (.ro 0 0 0 0) T.w.length none, y, ⟨c, .e, s', l'⟩, (i : Nat)⟩, k', w'⟩ = true := fun k' w' => by
    simp only [pwB, Bool.and_eq_true, decide_eq_true_eq, Int.toNat_natCast]
    exact ⟨hv, by omega, by omega, by omega, by omega, h⟩
  simp only [hpw, c3, c4, hl1, hl2, e3, sameCap, decide_true, Bool.and_self, Bool.and_true, Bool.true_and, true_and]
  refine ⟨?_, ?_, ?_⟩
  · rintro ⟨y', c', s2, l2, L'⟩ ha
    rw [Int.toNat_natCast] at ha
    have g : relB y' ⟨c', .n, s2, l2⟩ (i + 1) = true := ha
    have b2 := rel_okc g (by omega)
    have hn := rel_len g
    obtain ⟨g1, g2, g3, g4, g5, g6, g7, g8, g9, g10, g11, g12⟩ := relB_iff.1 g
    have q1 : decide ((y'.n : Int) = (0 : Int)) = true := decide_eq_true (by have : (.n : Rf).list.length = y'.n := hn; simp only [Rf.list, List.length_nil] at this; omega)
    have q2 : decide (y'.s = s2) = true := decide_eq_true g3.symm
    have q3 : decide (y'.l = l2) = true := decide_eq_true g4.symm
    simp only [b2, q1, q2, q3, decide_true, Bool.and_self, Bool.and_true, Bool.true_and, true_and, Bool.not_true, Bool.false_eq_true, false_implies, forall_const]
    exact .inl ⟨hi2, at_p g hi3⟩
  · rintro ⟨y', c', s2, l2, L'⟩ ha
    rw [Int.toNat_natCast] at ha
    have g : relB y' ⟨c', .e, s2, l2⟩ (i + 1) = true := ha
    have b2 := rel_okc g (by omega)
    have hn := rel_len g
    obtain ⟨g1, g2, g3, g4, g5, g6, g7, g8, g9, g10, g11, g12⟩ := relB_iff.1 g
    have q1 : decide ((y'.n : Int) = (0 : Int)) = true := decide_eq_true (by have : (.e : Rf).list.length = y'.n := hn; simp only [Rf.list, List.length_nil] at this; omega)
    have q2 : decide (y'.s = s2) = true := decide_eq_true g3.symm
    have q3 : decide (y'.l = l2) = true := decide_eq_true g4.symm
    simp only [b2, q1, q2, q3, decide_true, Bool.and_self, Bool.and_true, Bool.true_and, true_and, Bool.not_true, Bool.false_eq_true, false_implies, forall_const]
    exact .inl ⟨hi2, at_p g hi3⟩
  · rintro ⟨y', c', s2, l2, L'⟩ ha
    rw [Int.toNat_natCast] at ha
    have g : relB y' ⟨c', (.g L'), s2, l2⟩ (i + 1) = true := ha
    have b2 := rel_okc g (by omega)
    have hn := rel_len g
    obtain ⟨g1, g2, g3, g4, g5, g6, g7, g8, g9, g10, g11, g12⟩ := relB_iff.1 g
    have q1 : decide ((y'.n : Int) = ((L'.length : Nat) : Int)) = true := decide_eq_true (by have : ((.g L') : Rf).list.length = y'.n := hn; simp only [Rf.list, List.length_nil] at this; omega)
    have q2 : decide (y'.s = s2) = true := decide_eq_true g3.symm
    have q3 : decide (y'.l = l2) = true := decide_eq_true g4.symm
    simp only [b2, q1, q2, q3, decide_true, Bool.and_self, Bool.and_true, Bool.true_and, true_and, Bool.not_true, Bool.false_eq_true, false_implies, forall_const]
    exact .inl ⟨hi2, at_p g hi3⟩

theorem pl_step_g (ht : T.t.length = T.w.length) {y : Nt} {c s' l' : Int} {L : List ByteArray} {i : Nat} (h : relB y ⟨c, (.g L), s', l'⟩ i = true) (hi : i ≤ 100) :
    Takes Try.prog (tabN T) ra base 0 (codeOf 3 (false :: qK)) (mkT 189 (Pl.at ⟨.slice (.ro 0 0 0 0) T.w.length none, y, ⟨c, (.g L), s', l'⟩, (i : Nat)⟩)) (hp 0 (Pl.blks ⟨.slice (.ro 0 0 0 0) T.w.length none, y, ⟨c, (.g L), s', l'⟩, (i : Nat)⟩))
      fun w => (w.1 = .normal ∧ i < 100 ∧ AtP T (i + 1) w.2.1 w.2.2) ∨ ExP w := by
  have hE := tabN_plain T
  have hS := S2_ok (ra := ra) (base := base) hE
  refine takes_of_treeQ hE (wE hE hS) (TA2_ok T) (f := 3) (.inr (by kernel_rfl)) (hp_below _) (pl_g T T.w.length y c s' l' i L) ?_
  have c4 : decide (0 ≤ (i : Int)) = true := decide_eq_true (by omega)
  have hv : okV T (.slice (.ro 0 0 0 0) T.w.length none) = true := decide_eq_true rfl
  simp only [TreeQ.holds]
  refine ⟨fun hl1 => ⟨fun hl2 => ?_, fun _ => .inr (ex_p h hi rfl)⟩, fun _ => .inr (ex_p h hi rfl)⟩
  have k1 := of_decide_eq_true hl1
  have k2 := of_decide_eq_true hl2
  have hi2 : i < 100 := by omega
  have hi3 : i + 1 ≤ 100 := hi2
  have c3 : decide (0 + Int.toNat (i : Int) < T.w.length) = true := decide_eq_true (by omega)
  have e3 : wr .i64 ((i : Int) + 1) = ((i + 1 : Nat) : Int) := by rw [one_in ⟨by omega, by omega⟩]; rfl
  have hpw : ∀ k' w', pwB T ⟨⟨.slice (.ro 0 0 0 0) T.w.length none, y, ⟨c, (.g L), s', l'⟩, (i : Nat)⟩, k', w'⟩ = true := fun k' w' => by
    simp only [pwB, Bool.and_eq_true, decide_eq_true_eq, Int.toNat_natCast]
    exact ⟨hv, by omega, by omega, by omega, by omega, h⟩
  simp only [hpw, c3, c4, hl1, hl2, e3, sameCap, decide_true, Bool.and_self, Bool.and_true, Bool.true_and, true_and]
  refine ⟨?_, ?_, ?_⟩
  · rintro ⟨y', c', s2, l2, L'⟩ ha
    rw [Int.toNat_natCast] at ha
    have g : relB y' ⟨c', .n, s2, l2⟩ (i + 1) = true := ha
    have b2 := rel_okc g (by omega)
    have hn := rel_len g
    obtain ⟨g1, g2, g3, g4, g5, g6, g7, g8, g9, g10, g11, g12⟩ := relB_iff.1 g
    have q1 : decide ((y'.n : Int) = (0 : Int)) = true := decide_eq_true (by have : (.n : Rf).list.length = y'.n := hn; simp only [Rf.list, List.length_nil] at this; omega)
    have q2 : decide (y'.s = s2) = true := decide_eq_true g3.symm
    have q3 : decide (y'.l = l2) = true := decide_eq_true g4.symm
    simp only [b2, q1, q2, q3, decide_true, Bool.and_self, Bool.and_true, Bool.true_and, true_and, Bool.not_true, Bool.false_eq_true, false_implies, forall_const]
    exact .inl ⟨hi2, at_p g hi3⟩
  · rintro ⟨y', c', s2, l2, L'⟩ ha
    rw [Int.toNat_natCast] at ha
    have g : relB y' ⟨c', .e, s2, l2⟩ (i + 1) = true := ha
    have b2 := rel_okc g (by omega)
    have hn := rel_len g
    obtain ⟨g1, g2, g3, g4, g5, g6, g7, g8, g9, g10, g11, g12⟩ := relB_iff.1 g
    have q1 : decide ((y'.n : Int) = (0 : Int)) = true := decide_eq_true (by have : (.e : Rf).list.length = y'.n := hn; simp only [Rf.list, List.length_nil] at this; omega)
    have q2 : decide (y'.s = s2) = true := decide_eq_true g3.symm
    have q3 : decide (y'.l = l2) = true := decide_eq_true g4.symm
    simp only [b2, q1, q2, q3, decide_true, Bool.and_self, Bool.and_true, Bool.true_and, true_and, Bool.not_true, Bool.false_eq_true, false_implies, forall_const]
    exact .inl ⟨hi2, at_p g hi3⟩
  · rintro ⟨y', c', s2, l2, L'⟩ ha
    rw [Int.toNat_natCast] at ha
    have g : relB y' ⟨c', (.g L'), s2, l2⟩ (i + 1) = true := ha
    have b2 := rel_okc g (by omega)
    have hn := rel_len g
    obtain ⟨g1, g2, g3, g4, g5, g6, g7, g8, g9, g10, g11, g12⟩ := relB_iff.1 g
    have q1 : decide ((y'.n : Int) = ((L'.length : Nat) : Int)) = true := decide_eq_true (by have : ((.g L') : Rf).list.length = y'.n := hn; simp only [Rf.list, List.length_nil] at this; omega)
    have q2 : decide (y'.s = s2) = true := decide_eq_true g3.symm
    have q3 : decide (y'.l = l2) = true := decide_eq_true g4.symm
    simp only [b2, q1, q2, q3, decide_true, Bool.and_self, Bool.and_true, Bool.true_and, true_and, Bool.not_true, Bool.false_eq_true, false_implies, forall_const]
    exact .inl ⟨hi2, at_p g hi3⟩

theorem pl_takes (ht : T.t.length = T.w.length) (x : Pl) (hx : (plD T).pre x = true) : Takes Try.prog (tabN T) ra base 0 (.loop (codeOf 3 (false :: qK))) (mkT 189 ((plD T).ins x)) (hp 0 ((plD T).blks x)) fun z => PostL 189 x z (plD T).alts := by
  have hE := tabN_plain T
  have hS := S2_ok (ra := ra) (base := base) hE
  obtain ⟨V, y, ⟨c, f, s', l'⟩, i⟩ := x
  simp only [plD, Bool.and_eq_true, decide_eq_true_eq] at hx
  obtain ⟨hV, hN, rfl, h⟩ := hx
  have ends : ∀ w, ExP w → PostL 189 (⟨V, y, ⟨c, f, s', l'⟩, 0⟩ : Pl) w (plD T).alts := fun w => by
    rintro ⟨y', ⟨c', f', s2, l2⟩, g, hw⟩
    cases f' with
    | n => exact .inl ⟨⟨y', c', s2, l2, []⟩, g, hw⟩
    | e => exact .inr (.inl ⟨⟨y', c', s2, l2, []⟩, g, hw⟩)
    | g L => exact .inr (.inr ⟨⟨y', c', s2, l2, L⟩, g, hw⟩)
  rcases okV_cases hV with ⟨rfl, _⟩ | rfl
  · cases f with
    | e => cases hN
    | g L => cases hN
    | n =>
      refine takes_loop (fun j ts h => j = 1 ∧ ts = mkT 189 (Pl.at ⟨.nils, y, ⟨c, .n, s', l'⟩, 0⟩) ∧ h = hp 0 (Pl.blks ⟨.nils, y, ⟨c, .n, s', l'⟩, 0⟩)) (fun ts h => by rintro ⟨h, _⟩; omega) (fun j ts h' => ?_) (j := 1) ⟨rfl, rfl, rfl⟩
      rintro ⟨_, rfl, rfl⟩
      refine takes_of_tree hE (wE hE hS) (f := 3) (.inr (by kernel_rfl)) (hp_below _) (pl_0 T y c s' l') ?_
      exact ends _ (ex_p h (by omega) rfl)
  · refine takes_loop (fun j ts h => ∃ i, j = 100 - i + 1 ∧ AtP T i ts h) (fun ts h => by rintro ⟨i, h, _⟩; omega) (fun j ts h' => ?_) (j := 101) ⟨0, rfl, at_p h (Nat.zero_le _)⟩
    rintro ⟨i, k1, y', ⟨c', f', s2, l2⟩, k2, k3, rfl, rfl⟩
    have step : Takes Try.prog (tabN T) ra base 0 (codeOf 3 (false :: qK)) (mkT 189 (Pl.at ⟨.slice (.ro 0 0 0 0) T.w.length none, y', ⟨c', f', s2, l2⟩, (i : Nat)⟩)) (hp 0 (Pl.blks ⟨.slice (.ro 0 0 0 0) T.w.length none, y', ⟨c', f', s2, l2⟩, (i : Nat)⟩))
        fun w => (w.1 = .normal ∧ i < 100 ∧ AtP T (i + 1) w.2.1 w.2.2) ∨ ExP w := by
      cases f' with
      | n => exact pl_step_n ht k3 k2
      | e => exact pl_step_e ht k3 k2
      | g L => exact pl_step_g ht k3 k2
    refine step.mono ?_
    rintro ⟨q, ts', h''⟩ (⟨rfl, g1, g2⟩ | g)
    · exact ⟨i + 1, by omega, g2⟩
    · have e := ends _ g
      obtain ⟨_, _, _, hw⟩ := g
      have hq : q = .exit 0 := congrArg Prod.fst hw
      subst hq
      exact e

/-! ### The end -/

theorem lv_del0 {y : Nt} (h : y.n ≤ y.xs.length) (h0 : 0 < y.n) : y.del 0 = ⟨y.n - 1, shut y.xs y.n 0, y.s, y.l⟩ ∧ (y.del 0).lv = y.lv.tail := by
  have hh : y.has 0 = true := has_iff.2 ⟨by omega, by omega⟩
  have e : y.del 0 = ⟨y.n - 1, shut y.xs y.n 0, y.s, y.l⟩ := by rw [Nt.del, if_pos hh]; rfl
  refine ⟨e, ?_⟩
  rw [e]
  have := live_shut (xs := y.xs) h0 h
  rw [List.eraseIdx_zero] at this
  exact this

def AtF (L : List ByteArray) (r : Rr) (i : Nat) (ts : Tmps) (h : Log) : Prop := ∃ y : Nt, i ≤ L.length ∧ L.drop i = y.lv ∧ okNt y = true ∧ ts = mkT 189 (Fi.ins ⟨y, r, (i : Nat)⟩) ∧ h = hp 0 (twoB y r)
theorem at_f {L : List ByteArray} {r : Rr} {i : Nat} {y : Nt} (h1 : i ≤ L.length) (h2 : L.drop i = y.lv) (h3 : okNt y = true) : AtF L r i (mkT 189 (Fi.ins ⟨y, r, (i : Nat)⟩)) (hp 0 (twoB y r)) := ⟨y, h1, h2, h3, rfl, rfl⟩

theorem fi_step {L : List ByteArray} {c s' l' : Int} {i : Nat} {y : Nt} (hl : L.length ≤ 64) (h1 : i ≤ L.length) (h2 : L.drop i = y.lv) (h3 : okNt y = true) :
    Takes Try.prog (tabN T) ra base 0 (codeOf 3 (false :: qF)) (mkT 189 (Fi.ins ⟨y, ⟨c, .g L, s', l'⟩, (i : Nat)⟩)) (hp 0 (twoB y ⟨c, .g L, s', l'⟩))
      fun w => (w.1 = .normal ∧ i < L.length ∧ AtF L ⟨c, .g L, s', l'⟩ (i + 1) w.2.1 w.2.2) ∨ w = (.exit 3, mkT 189 [], hp 0 []) := by
  have hE := tabN_plain T
  have hS := S2_ok (ra := ra) (base := base) hE
  refine takes_of_tree hE (wE hE hS) (f := 3) (.inr (by kernel_rfl)) (hp_below _) (fi_g T y c s' l' i L) ?_
  simp only [Tree.holds]
  refine ⟨fun hl1 => ?_, fun _ => .inr rfl⟩
  have k1 := of_decide_eq_true hl1
  have hi : i < L.length := by omega
  obtain ⟨o1, o2, o3, o4, o5, o6, o7⟩ := okNt_iff.1 h3
  have hn : (L.drop i).length = y.n := by rw [h2, Nt.lv, List.length_take]; omega
  rw [List.length_drop] at hn
  have h0 : 0 < y.n := by omega
  have hh : y.has 0 = true := has_iff.2 ⟨by omega, by omega⟩
  have he : y.err 0 = 0 := by rw [Nt.err, if_pos hh]
  have htx : y.text 0 = L.getD (0 + Int.toNat (i : Int)) noTx := by
    rw [Nt.text, if_pos hh, Int.toNat_natCast, Nat.zero_add]
    show y.xs.getD 0 noTx = L.getD i noTx
    have e1 : y.lv[0]? = y.xs[0]? := by rw [Nt.lv]; exact List.getElem?_take_of_lt h0
    have e2 : (L.drop i)[0]? = L[i]? := by rw [List.getElem?_drop]; rfl
    rw [List.getD_eq_getElem?_getD, List.getD_eq_getElem?_getD, ← e1, ← e2, h2]
  obtain ⟨d1, d2⟩ := lv_del0 o1 h0
  have c3 : decide (0 + Int.toNat (i : Int) < L.length) = true := decide_eq_true (by omega)
  have c4 : decide (0 ≤ (i : Int)) = true := decide_eq_true (by omega)
  have e3 : wr .i64 ((i : Int) + 1) = ((i + 1 : Nat) : Int) := by rw [one_in ⟨by omega, by omega⟩]; rfl
  have ok' : okNt (y.del 0) = true := by
    have hsl := shut_len h0 o1
    rw [d1]
    exact okNt_iff.2 ⟨by simp only; omega, by simp only; omega, by simp only; omega, o4, o5, o6, o7⟩
  have dr : L.drop (i + 1) = (y.del 0).lv := by rw [d2, ← h2, List.tail_drop]
  simp only [h3, he, htx, beq_tx, hl1, c3, c4, e3, sameCap, decide_true, Bool.and_self, Bool.and_true, Bool.true_and, true_and, Bool.not_true, Bool.false_eq_true, false_implies, forall_const]
  exact .inl ⟨hi, at_f (y := y.del 0) (r := ⟨c, .g L, s', l'⟩) hi dr ok'⟩

theorem fi_takes (x : Fi) (hx : fiD.pre x = true) : Takes Try.prog (tabN T) ra base 0 (.loop (codeOf 3 (false :: qF))) (mkT 189 (fiD.ins x)) (hp 0 (fiD.blks x)) fun z => PostL 189 x z fiD.alts := by
  have hE := tabN_plain T
  have hS := S2_ok (ra := ra) (base := base) hE
  obtain ⟨y, ⟨c, f, s', l'⟩, i⟩ := x
  simp only [fiD, Bool.and_eq_true, decide_eq_true_eq] at hx
  obtain ⟨rfl, h⟩ := hx
  cases f with
  | n =>
    refine takes_loop (fun j ts h => j = 1 ∧ ts = mkT 189 (Fi.ins ⟨y, ⟨c, .n, s', l'⟩, 0⟩) ∧ h = hp 0 (twoB y ⟨c, .n, s', l'⟩)) (fun ts h => by rintro ⟨h, _⟩; omega) (fun j ts h' => ?_) (j := 1) ⟨rfl, rfl, rfl⟩
    rintro ⟨_, rfl, rfl⟩
    exact takes_of_tree hE (wE hE hS) (f := 3) (.inr (by kernel_rfl)) (hp_below _) (fi_n T y c s' l') ⟨(), trivial, rfl⟩
  | e =>
    refine takes_loop (fun j ts h => j = 1 ∧ ts = mkT 189 (Fi.ins ⟨y, ⟨c, .e, s', l'⟩, 0⟩) ∧ h = hp 0 (twoB y ⟨c, .e, s', l'⟩)) (fun ts h => by rintro ⟨h, _⟩; omega) (fun j ts h' => ?_) (j := 1) ⟨rfl, rfl, rfl⟩
    rintro ⟨_, rfl, rfl⟩
    exact takes_of_tree hE (wE hE hS) (f := 3) (.inr (by kernel_rfl)) (hp_below _) (fi_e T y c s' l') ⟨(), trivial, rfl⟩
  | g L =>
    have hlen : L.length = y.n := rel_len h
    have ok := rel_nt h (by omega)
    obtain ⟨g1, g2, g3, g4, g5, g6, g7, g8, g9, g10, g11, g12⟩ := relB_iff.1 h
    have hl : L.length ≤ 64 := by omega
    refine takes_loop (fun j ts h => ∃ i, j = L.length - i + 1 ∧ AtF L ⟨c, .g L, s', l'⟩ i ts h) (fun ts h => by rintro ⟨i, h, _⟩; omega) (fun j ts h' => ?_) (j := L.length + 1) ⟨0, by omega, at_f (Nat.zero_le _) g2 ok⟩
    rintro ⟨i, k1, y', k2, k3, k4, rfl, rfl⟩
    refine (fi_step hl k2 k3 k4).mono ?_
    rintro ⟨q, ts', h''⟩ (⟨rfl, g1, g2⟩ | g)
    · exact ⟨i + 1, by omega, g2⟩
    · rw [g]
      exact ⟨(), trivial, rfl⟩

theorem TK2_ok (T : Tb) (ht : T.t.length = T.w.length) : ToldsOK Try.prog (tabN T) ra base 0 (TK2 T) :=
  sumT_ok (sumT_ok noT_ok rfl (toldR_ok (c := .loop (codeOf 3 (false :: qF))) (by kernel_rfl) fi_takes)) rfl (toldR_ok (c := .loop (codeOf 3 (false :: qK))) (by kernel_rfl) (pl_takes ht))

theorem rel_start {q : Int} (h : newOk q = true) : relB ⟨0, List.replicate (Int.toNat q) noTx, 0, 0⟩ ⟨q, .n, 0, 0⟩ 0 = true := by
  obtain ⟨h1, h2⟩ := newOk_iff.1 h
  refine relB_iff.2 ⟨rfl, rfl, rfl, rfl, ?_, ?_, ?_, ?_, Int.le_refl _, Int.le_refl _, Int.le_refl _, Int.le_refl _⟩ <;> simp only [List.length_replicate] <;> omega

theorem plays_gives (ht : T.t.length = T.w.length) {V : AVal} (hV : okV T V = true) (c : Int) :
    Gives Try.prog (tabN T) ra base 0 3 [.int .i64 c, V] (hp 0 []) fun v _ => v = .bool true := by
  have hE := tabN_plain T
  have hS := S2_ok (ra := ra) (base := base) hE
  have hT := TK2_ok (ra := ra) (base := base) T ht
  have t1 : Int.tmod c 61 < 61 := Int.tmod_lt_of_pos c (by decide)
  have t2 : -61 < Int.tmod c 61 := Int.lt_tmod_of_pos c (by decide)
  have e1 : wr .i64 (Int.tmod c 61 + 61) = Int.tmod c 61 + 61 := one_in ⟨by omega, by omega⟩
  have e2 : Int.tmod (Int.tmod c 61 + 61) 61 = (Int.tmod c 61 + 61) % 61 := Int.tmod_eq_emod_of_nonneg (by omega)
  have e3 : wr .i64 (4 + (Int.tmod c 61 + 61) % 61) = 4 + (Int.tmod c 61 + 61) % 61 := one_in ⟨by omega, by omega⟩
  have hn : newOk (4 + (Int.tmod c 61 + 61) % 61) = true := newOk_iff.2 ⟨by omega, by omega⟩
  have r2 := rel_start hn
  have leafN : ∀ a : Ag, relB a.y (a.r (fN a)) 100 = true → relB a.y ⟨a.c, .n, a.s, a.l⟩ 100 = true := fun _ h => h
  have leafE : ∀ a : Ag, relB a.y (a.r (fE a)) 100 = true → relB a.y ⟨a.c, .e, a.s, a.l⟩ 100 = true := fun _ h => h
  have leafG : ∀ a : Ag, relB a.y (a.r (fG a)) 100 = true → relB a.y ⟨a.c, .g a.L, a.s, a.l⟩ 100 = true := fun _ h => h
  rcases okV_cases hV with ⟨rfl, h0⟩ | rfl
  · refine gives_of_treeQ hE (wE hE hS) hT (hp_below _) (pl_call0 T c) ?_
    rw [e1, e2, e3]
    cases hc : newOk c with
    | true =>
      have r1 := rel_start hc
      simp only [TreeQ.holds, hc, hn, hV, r1, r2, sameCap, List.length_replicate, decide_true, Bool.and_self, Bool.and_true, Bool.true_and, true_and, Bool.not_true, Bool.not_false, Bool.false_eq_true, false_implies, forall_const, and_true, Bool.true_eq_false]
      exact ⟨fun a ha => ⟨leafN a ha, _, rfl, rfl⟩, fun a ha => ⟨leafE a ha, _, rfl, rfl⟩, fun a ha => ⟨leafG a ha, _, rfl, rfl⟩⟩
    | false =>
      simp only [TreeQ.holds, hc, hn, hV, r2, sameCap, List.length_replicate, decide_true, Bool.and_self, Bool.and_true, Bool.true_and, true_and, Bool.not_true, Bool.not_false, Bool.false_eq_true, false_implies, forall_const, and_true, Bool.true_eq_false]
      exact ⟨fun a ha => ⟨leafN a ha, _, rfl, rfl⟩, fun a ha => ⟨leafE a ha, _, rfl, rfl⟩, fun a ha => ⟨leafG a ha, _, rfl, rfl⟩⟩
  · refine gives_of_treeQ hE (wE hE hS) hT (hp_below _) (pl_call T T.w.length c) ?_
    rw [e1, e2, e3]
    cases hc : newOk c with
    | true =>
      have r1 := rel_start hc
      simp only [TreeQ.holds, hc, hn, hV, r1, r2, sameCap, List.length_replicate, decide_true, Bool.and_self, Bool.and_true, Bool.true_and, true_and, Bool.not_true, Bool.not_false, Bool.false_eq_true, false_implies, forall_const, and_true, Bool.true_eq_false]
      exact ⟨fun a ha => ⟨leafN a ha, _, rfl, rfl⟩, fun a ha => ⟨leafE a ha, _, rfl, rfl⟩, fun a ha => ⟨leafG a ha, _, rfl, rfl⟩⟩
    | false =>
      simp only [TreeQ.holds, hc, hn, hV, r2, sameCap, List.length_replicate, decide_true, Bool.and_self, Bool.and_true, Bool.true_and, true_and, Bool.not_true, Bool.not_false, Bool.false_eq_true, false_implies, forall_const, and_true, Bool.true_eq_false]
      exact ⟨fun a ha => ⟨leafN a ha, _, rfl, rfl⟩, fun a ha => ⟨leafE a ha, _, rfl, rfl⟩, fun a ha => ⟨leafG a ha, _, rfl, rfl⟩⟩
end
end Go.Proofs.Ytohdkgdaccoohaa
