/- oper: the document's one, kept. -/
import Derived.Test.YtbfebjmmpiffpaaP04s
import Derived.Test.YtbfebjmmpiffpaaT04e
set_option linter.unusedSimpArgs false
set_option linter.unusedVariables false
namespace Go.Proofs.Ytbfebjmmpiffpaa
open Ab

def OneQ (y : Or) (z : State) : Prop := ∃ v, z.2.1 = [v] ∧ ((y.none = true → v = orNone.out y ∧ z.2.2 = hp 0 (orNone.blks' y)) ∧ (y.none = false → v = orSome.out y ∧ z.2.2 = hp 0 (orSome.blks' y)))
theorem one_end {y : Or} {l : List Rc} {c : Option Nat} (h : y.res = l) (hne : l ≠ []) (hc : y.cap = c) : OneQ y (.ret, mkT 1 [(0, .slice (.own 0 0 0 6) l.length c)], hp 0 [(Rs.of l).blk]) := by
  refine ⟨_, rfl, fun hn => ?_, fun _ => ⟨?_, ?_⟩⟩
  · rw [Or.none, h] at hn; exact absurd (List.isEmpty_iff.1 hn) hne
  · simp only [orSome, h, hc]
  · simp only [orSome, h]
theorem one_nil {y : Or} (h : y.res = []) : OneQ y (.ret, mkT 1 [(0, .nils)], []) := by
  refine ⟨_, rfl, fun _ => ⟨rfl, rfl⟩, fun hn => ?_⟩
  rw [Or.none, h] at hn; cases hn

theorem wr_eq (x : Int) : wr .i64 x = (x + 9223372036854775808) % 18446744073709551616 - 9223372036854775808 := rfl
theorem val0 {v b : Int} (h : in64 v) : wr .i64 (v + wr .i64 (0 * b)) = v := by
  rw [Int.zero_mul, show wr .i64 0 = 0 from rfl, Int.add_zero, wr_in h]
theorem val1 {v b : Int} : wr .i64 (v + wr .i64 (1 * b)) = wr .i64 (v + b) := by
  rw [wr_eq, wr_eq, wr_eq]; omega
theorem val2 {v b : Int} : wr .i64 (v + wr .i64 (2 * b)) = wr .i64 (wr .i64 (v + b) + b) := by
  rw [wr_eq, wr_eq, wr_eq, wr_eq]; omega
theorem key_ref {k a b : Int} (ha : 1 ≤ a ∧ a ≤ 4294967295) (hb : 0 ≤ b ∧ b ≤ 4294967295) (hk : 0 ≤ k ∧ k ≤ 4294967295) : wr .u32 (Int.tmod (wr .u64 (Int.tmod (wr .u64 k) (wr .u64 a) + wr .u64 b)) 4294967296) = keyN a b k := by
  unfold keyN
  have e3 : ∀ {x : Int}, 0 ≤ x ∧ x < 4294967296 → wr .u32 x = x := fun {x} h => by
    show x % 4294967296 = x
    omega
  have h1 := Int.emod_nonneg k (b := a) (by omega)
  have h2 := Int.emod_lt_of_pos k (b := a) (by omega)
  rw [wr_u64 (v := k) ⟨by omega, by omega⟩, wr_u64 (v := a) ⟨by omega, by omega⟩, wr_u64 (v := b) ⟨by omega, by omega⟩, Int.tmod_eq_emod_of_nonneg hk.1]
  rw [e3 (x := b) ⟨by omega, by omega⟩]
  generalize k % a = q at h1 h2 ⊢
  rw [e3 (x := q) ⟨by omega, by omega⟩, wr_u64 (v := q + b) ⟨by omega, by omega⟩, Int.tmod_eq_emod_of_nonneg (by omega)]
  show ((q + b) % 4294967296) % 4294967296 = (q + b) % 4294967296
  omega
theorem left_ref {a v : Int} (ha : 1 ≤ a ∧ a ≤ 1073741824) : Int.tmod (wr .i64 (Int.tmod v a + a)) a = left a v := by
  have h : -a < Int.tmod v a ∧ Int.tmod v a < a := by
    rcases Int.le_total 0 v with h | h
    · rw [Int.tmod_eq_emod_of_nonneg h]
      have := Int.emod_nonneg v (b := a) (by omega)
      have := Int.emod_lt_of_pos v (b := a) (by omega)
      omega
    · have e : Int.tmod v a = -((-v) % a) := by rw [← Int.tmod_eq_emod_of_nonneg (by omega), Int.neg_tmod, Int.neg_neg]
      have := Int.emod_nonneg (-v) (b := a) (by omega)
      have := Int.emod_lt_of_pos (-v) (b := a) (by omega)
      rw [e]; omega
  unfold left
  generalize Int.tmod v a = t at h ⊢
  rw [wr_in (v := t + a) ⟨by omega, by omega⟩, Int.tmod_eq_emod_of_nonneg (by omega)]
  split
  · exact Int.emod_eq_of_lt (by omega) (by omega)
  · rw [Int.add_emod_right]; exact Int.emod_eq_of_lt (by omega) (by omega)

theorem res_does {x : Op4} {r : Rc} (h : doesB x = true) : (⟨x, r⟩ : Or).res = makes x r := by rw [Or.res, oneF, if_pos h]
theorem res_not {x : Op4} {r : Rc} (h : doesB x = false) : (⟨x, r⟩ : Or).res = [r] := by rw [Or.res, oneF, if_neg (by rw [h]; decide)]
theorem cap_one {x : Op4} {r : Rc} (h : r.err = true ∨ r.late = true ∨ doesB x = false ∨ x.k = 0 ∨ x.k = 1) : (⟨x, r⟩ : Or).cap = some 1 := if_pos h
theorem cap_grown {x : Op4} {r : Rc} (h1 : r.err = false) (h2 : r.late = false) (h3 : doesB x = true) (h4 : x.k ≠ 0) (h5 : x.k ≠ 1) : (⟨x, r⟩ : Or).cap = none := by
  refine if_neg ?_
  simp only [h1, h2, h3]
  rintro (h | h | h | h | h)
  · cases h
  · cases h
  · cases h
  · exact h4 h
  · exact h5 h
theorem rc_iff {r : Rc} : rcB r = true ↔ (0 ≤ r.key ∧ r.key ≤ 4294967295) ∧ in64 r.val := by
  simp only [rcB, inZ, in64, Bool.and_eq_true, decide_eq_true_eq]; omega

section
variable {E : Nat → Nat → Seg} {ra : Nat → Nat → Nat × Nat} {base : Nat}
/-- a record that is passed on -/
theorem one_pass {x : Op4} {r : Rc} (h : r.err = true ∨ r.late = true) : OneQ ⟨x, r⟩ (.ret, mkT 1 [(0, .slice (.own 0 0 0 6) 1 (some 1))], hp 0 [(Rs.of [r]).blk]) := by
  refine one_end (l := [r]) ?_ (by simp) (cap_one (by rcases h with h | h <;> simp [h]))
  cases hd : doesB x with
  | true => rw [res_does hd, makes_pass h]
  | false => rw [res_not hd]
theorem one_g0 (hE : Plain E) (hS : SumsOK Try.prog E ra base SM) {a b g ky t v s : Int} {e l : Bool} (hd : doesB ⟨0, a, b, g⟩ = true) : Gives Try.prog E ra base 0 22 [Op4.v ⟨0, a, b, g⟩, Rc.v ⟨ky, t, v, s, e, l⟩] (hp 0 []) fun V h' =>
    (Or.none ⟨⟨0, a, b, g⟩, ⟨ky, t, v, s, e, l⟩⟩ = true → V = orNone.out ⟨⟨0, a, b, g⟩, ⟨ky, t, v, s, e, l⟩⟩ ∧ h' = hp 0 (orNone.blks' ⟨⟨0, a, b, g⟩, ⟨ky, t, v, s, e, l⟩⟩)) ∧ (Or.none ⟨⟨0, a, b, g⟩, ⟨ky, t, v, s, e, l⟩⟩ = false → V = orSome.out ⟨⟨0, a, b, g⟩, ⟨ky, t, v, s, e, l⟩⟩ ∧ h' = hp 0 (orSome.blks' ⟨⟨0, a, b, g⟩, ⟨ky, t, v, s, e, l⟩⟩)) := by
  obtain ⟨hm, hc⟩ := does_iff.1 hd
  have hkk := does_kind hd
  refine (gives_of_tree hE (wE hE hS) hS (hp_below _) (one_0 E a b g ky t v s e l) (Tree.holds_mono (Q := OneQ ⟨⟨0, a, b, g⟩, ⟨ky, t, v, s, e, l⟩⟩) (fun _ h => h) ?_)).2
  simp only [Tree.holds, decide_true, Bool.and_self, Bool.and_true, Bool.true_and, true_and, hm, Bool.not_true, decide_eq_true_eq]
  refine ⟨fun h => one_pass (.inl h), fun h => ⟨fun h' => one_pass (.inr h'), fun h' => ?_⟩⟩
  have hmk : Or.res ⟨⟨0, a, b, g⟩, ⟨ky, t, v, s, e, l⟩⟩ = makes ⟨0, a, b, g⟩ ⟨ky, t, v, s, e, l⟩ := res_does hd
  rw [makes_not h h', if_pos rfl] at hmk
  exact one_end hmk (by simp) (cap_one (.inr (.inr (.inr (.inl rfl)))))
theorem one_g1 (hE : Plain E) (hS : SumsOK Try.prog E ra base SM) {a b g ky t v s : Int} {e l : Bool} (hd : doesB ⟨1, a, b, g⟩ = true) (hk : 0 ≤ ky ∧ ky ≤ 4294967295) : Gives Try.prog E ra base 0 22 [Op4.v ⟨1, a, b, g⟩, Rc.v ⟨ky, t, v, s, e, l⟩] (hp 0 []) fun V h' =>
    (Or.none ⟨⟨1, a, b, g⟩, ⟨ky, t, v, s, e, l⟩⟩ = true → V = orNone.out ⟨⟨1, a, b, g⟩, ⟨ky, t, v, s, e, l⟩⟩ ∧ h' = hp 0 (orNone.blks' ⟨⟨1, a, b, g⟩, ⟨ky, t, v, s, e, l⟩⟩)) ∧ (Or.none ⟨⟨1, a, b, g⟩, ⟨ky, t, v, s, e, l⟩⟩ = false → V = orSome.out ⟨⟨1, a, b, g⟩, ⟨ky, t, v, s, e, l⟩⟩ ∧ h' = hp 0 (orSome.blks' ⟨⟨1, a, b, g⟩, ⟨ky, t, v, s, e, l⟩⟩)) := by
  obtain ⟨hm, hc⟩ := does_iff.1 hd
  have hkk := does_kind hd
  refine (gives_of_tree hE (wE hE hS) hS (hp_below _) (one_1 E a b g ky t v s e l) (Tree.holds_mono (Q := OneQ ⟨⟨1, a, b, g⟩, ⟨ky, t, v, s, e, l⟩⟩) (fun _ h => h) ?_)).2
  simp only [Tree.holds, decide_true, Bool.and_self, Bool.and_true, Bool.true_and, true_and, hm, Bool.not_true, decide_eq_true_eq]
  refine ⟨fun h => one_pass (.inl h), fun h => ⟨fun h' => one_pass (.inr h'), fun h' => ?_⟩⟩
  have hmk : Or.res ⟨⟨1, a, b, g⟩, ⟨ky, t, v, s, e, l⟩⟩ = makes ⟨1, a, b, g⟩ ⟨ky, t, v, s, e, l⟩ := res_does hd
  rw [makes_not h h', if_neg (show ¬ ((1 : Int) = 0) by decide), if_pos rfl] at hmk
  have ha : 1 ≤ a ∧ a ≤ 4294967295 := hkk.2.1 rfl
  have hb := (may_iff1.1 hm).2.2
  refine ⟨by rw [wr_u64 ⟨by omega, by omega⟩]; omega, ?_⟩
  rw [key_ref ha hb hk]
  exact one_end hmk (by simp) (cap_one (.inr (.inr (.inr (.inr rfl)))))
theorem one_g2 (hE : Plain E) (hS : SumsOK Try.prog E ra base SM) {a b g ky t v s : Int} {e l : Bool} (hd : doesB ⟨2, a, b, g⟩ = true) : Gives Try.prog E ra base 0 22 [Op4.v ⟨2, a, b, g⟩, Rc.v ⟨ky, t, v, s, e, l⟩] (hp 0 []) fun V h' =>
    (Or.none ⟨⟨2, a, b, g⟩, ⟨ky, t, v, s, e, l⟩⟩ = true → V = orNone.out ⟨⟨2, a, b, g⟩, ⟨ky, t, v, s, e, l⟩⟩ ∧ h' = hp 0 (orNone.blks' ⟨⟨2, a, b, g⟩, ⟨ky, t, v, s, e, l⟩⟩)) ∧ (Or.none ⟨⟨2, a, b, g⟩, ⟨ky, t, v, s, e, l⟩⟩ = false → V = orSome.out ⟨⟨2, a, b, g⟩, ⟨ky, t, v, s, e, l⟩⟩ ∧ h' = hp 0 (orSome.blks' ⟨⟨2, a, b, g⟩, ⟨ky, t, v, s, e, l⟩⟩)) := by
  obtain ⟨hm, hc⟩ := does_iff.1 hd
  have hkk := does_kind hd
  refine (gives_of_tree hE (wE hE hS) hS (hp_below _) (one_2 E a b g ky t v s e l) (Tree.holds_mono (Q := OneQ ⟨⟨2, a, b, g⟩, ⟨ky, t, v, s, e, l⟩⟩) (fun _ h => h) ?_)).2
  simp only [Tree.holds, decide_true, Bool.and_self, Bool.and_true, Bool.true_and, true_and, hm, Bool.not_true, decide_eq_true_eq]
  refine ⟨fun h => one_pass (.inl h), fun h => ⟨fun h' => one_pass (.inr h'), fun h' => ?_⟩⟩
  have hmk : Or.res ⟨⟨2, a, b, g⟩, ⟨ky, t, v, s, e, l⟩⟩ = makes ⟨2, a, b, g⟩ ⟨ky, t, v, s, e, l⟩ := res_does hd
  rw [makes_not h h', if_neg (show ¬ ((2 : Int) = 0) by decide), if_neg (show ¬ ((2 : Int) = 1) by decide), if_pos rfl] at hmk
  have ha : 1 ≤ a ∧ a ≤ 1073741824 := hkk.2.2.1 rfl
  refine ⟨by omega, by omega, ?_⟩
  rw [left_ref ha]
  have hlf : leftOf ⟨2, a, b, g⟩ ⟨ky, t, v, s, e, l⟩ = left a v := rfl
  rw [hlf] at hmk
  refine ⟨fun q => ?_, fun q => ?_⟩
  · rw [if_pos (by simpa using q)] at hmk
    exact one_end hmk (by simp) (cap_grown h h' hd (show (2 : Int) ≠ 0 by decide) (show (2 : Int) ≠ 1 by decide))
  · rw [if_neg (by simpa using q)] at hmk
    exact one_nil hmk
theorem one_g3a (hE : Plain E) (hS : SumsOK Try.prog E ra base SM) {b g ky t v s : Int} {e l : Bool} (hd : doesB ⟨3, 1, b, g⟩ = true) (hv : in64 v) : Gives Try.prog E ra base 0 22 [Op4.v ⟨3, 1, b, g⟩, Rc.v ⟨ky, t, v, s, e, l⟩] (hp 0 []) fun V h' =>
    (Or.none ⟨⟨3, 1, b, g⟩, ⟨ky, t, v, s, e, l⟩⟩ = true → V = orNone.out ⟨⟨3, 1, b, g⟩, ⟨ky, t, v, s, e, l⟩⟩ ∧ h' = hp 0 (orNone.blks' ⟨⟨3, 1, b, g⟩, ⟨ky, t, v, s, e, l⟩⟩)) ∧ (Or.none ⟨⟨3, 1, b, g⟩, ⟨ky, t, v, s, e, l⟩⟩ = false → V = orSome.out ⟨⟨3, 1, b, g⟩, ⟨ky, t, v, s, e, l⟩⟩ ∧ h' = hp 0 (orSome.blks' ⟨⟨3, 1, b, g⟩, ⟨ky, t, v, s, e, l⟩⟩)) := by
  obtain ⟨hm, hc⟩ := does_iff.1 hd
  have hkk := does_kind hd
  refine (gives_of_tree hE (wE hE hS) hS (hp_below _) (one_3a E b g ky t v s e l) (Tree.holds_mono (Q := OneQ ⟨⟨3, 1, b, g⟩, ⟨ky, t, v, s, e, l⟩⟩) (fun _ h => h) ?_)).2
  simp only [Tree.holds, decide_true, Bool.and_self, Bool.and_true, Bool.true_and, true_and, hm, Bool.not_true, val0 hv, val1, val2, decide_eq_true_eq]
  refine ⟨fun h => one_pass (.inl h), fun h => ⟨fun h' => one_pass (.inr h'), fun h' => ?_⟩⟩
  have hmk : Or.res ⟨⟨3, 1, b, g⟩, ⟨ky, t, v, s, e, l⟩⟩ = makes ⟨3, 1, b, g⟩ ⟨ky, t, v, s, e, l⟩ := res_does hd
  rw [makes_not h h', if_neg (show ¬ ((3 : Int) = 0) by decide), if_neg (show ¬ ((3 : Int) = 1) by decide), if_neg (show ¬ ((3 : Int) = 2) by decide)] at hmk
  exact one_end hmk (by simp [copies, show (1 : Int).toNat = 1 from rfl]) (cap_grown h h' hd (show (3 : Int) ≠ 0 by decide) (show (3 : Int) ≠ 1 by decide))
theorem one_g3b (hE : Plain E) (hS : SumsOK Try.prog E ra base SM) {b g ky t v s : Int} {e l : Bool} (hd : doesB ⟨3, 2, b, g⟩ = true) (hv : in64 v) : Gives Try.prog E ra base 0 22 [Op4.v ⟨3, 2, b, g⟩, Rc.v ⟨ky, t, v, s, e, l⟩] (hp 0 []) fun V h' =>
    (Or.none ⟨⟨3, 2, b, g⟩, ⟨ky, t, v, s, e, l⟩⟩ = true → V = orNone.out ⟨⟨3, 2, b, g⟩, ⟨ky, t, v, s, e, l⟩⟩ ∧ h' = hp 0 (orNone.blks' ⟨⟨3, 2, b, g⟩, ⟨ky, t, v, s, e, l⟩⟩)) ∧ (Or.none ⟨⟨3, 2, b, g⟩, ⟨ky, t, v, s, e, l⟩⟩ = false → V = orSome.out ⟨⟨3, 2, b, g⟩, ⟨ky, t, v, s, e, l⟩⟩ ∧ h' = hp 0 (orSome.blks' ⟨⟨3, 2, b, g⟩, ⟨ky, t, v, s, e, l⟩⟩)) := by
  obtain ⟨hm, hc⟩ := does_iff.1 hd
  have hkk := does_kind hd
  refine (gives_of_tree hE (wE hE hS) hS (hp_below _) (one_3b E b g ky t v s e l) (Tree.holds_mono (Q := OneQ ⟨⟨3, 2, b, g⟩, ⟨ky, t, v, s, e, l⟩⟩) (fun _ h => h) ?_)).2
  simp only [Tree.holds, decide_true, Bool.and_self, Bool.and_true, Bool.true_and, true_and, hm, Bool.not_true, val0 hv, val1, val2, decide_eq_true_eq]
  refine ⟨fun h => one_pass (.inl h), fun h => ⟨fun h' => one_pass (.inr h'), fun h' => ?_⟩⟩
  have hmk : Or.res ⟨⟨3, 2, b, g⟩, ⟨ky, t, v, s, e, l⟩⟩ = makes ⟨3, 2, b, g⟩ ⟨ky, t, v, s, e, l⟩ := res_does hd
  rw [makes_not h h', if_neg (show ¬ ((3 : Int) = 0) by decide), if_neg (show ¬ ((3 : Int) = 1) by decide), if_neg (show ¬ ((3 : Int) = 2) by decide)] at hmk
  exact one_end hmk (by simp [copies, show (2 : Int).toNat = 2 from rfl]) (cap_grown h h' hd (show (3 : Int) ≠ 0 by decide) (show (3 : Int) ≠ 1 by decide))
theorem one_g3c (hE : Plain E) (hS : SumsOK Try.prog E ra base SM) {b g ky t v s : Int} {e l : Bool} (hd : doesB ⟨3, 3, b, g⟩ = true) (hv : in64 v) : Gives Try.prog E ra base 0 22 [Op4.v ⟨3, 3, b, g⟩, Rc.v ⟨ky, t, v, s, e, l⟩] (hp 0 []) fun V h' =>
    (Or.none ⟨⟨3, 3, b, g⟩, ⟨ky, t, v, s, e, l⟩⟩ = true → V = orNone.out ⟨⟨3, 3, b, g⟩, ⟨ky, t, v, s, e, l⟩⟩ ∧ h' = hp 0 (orNone.blks' ⟨⟨3, 3, b, g⟩, ⟨ky, t, v, s, e, l⟩⟩)) ∧ (Or.none ⟨⟨3, 3, b, g⟩, ⟨ky, t, v, s, e, l⟩⟩ = false → V = orSome.out ⟨⟨3, 3, b, g⟩, ⟨ky, t, v, s, e, l⟩⟩ ∧ h' = hp 0 (orSome.blks' ⟨⟨3, 3, b, g⟩, ⟨ky, t, v, s, e, l⟩⟩)) := by
  obtain ⟨hm, hc⟩ := does_iff.1 hd
  have hkk := does_kind hd
  refine (gives_of_tree hE (wE hE hS) hS (hp_below _) (one_3c E b g ky t v s e l) (Tree.holds_mono (Q := OneQ ⟨⟨3, 3, b, g⟩, ⟨ky, t, v, s, e, l⟩⟩) (fun _ h => h) ?_)).2
  simp only [Tree.holds, decide_true, Bool.and_self, Bool.and_true, Bool.true_and, true_and, hm, Bool.not_true, val0 hv, val1, val2, decide_eq_true_eq]
  refine ⟨fun h => one_pass (.inl h), fun h => ⟨fun h' => one_pass (.inr h'), fun h' => ?_⟩⟩
  have hmk : Or.res ⟨⟨3, 3, b, g⟩, ⟨ky, t, v, s, e, l⟩⟩ = makes ⟨3, 3, b, g⟩ ⟨ky, t, v, s, e, l⟩ := res_does hd
  rw [makes_not h h', if_neg (show ¬ ((3 : Int) = 0) by decide), if_neg (show ¬ ((3 : Int) = 1) by decide), if_neg (show ¬ ((3 : Int) = 2) by decide)] at hmk
  exact one_end hmk (by simp [copies, show (3 : Int).toNat = 3 from rfl]) (cap_grown h h' hd (show (3 : Int) ≠ 0 by decide) (show (3 : Int) ≠ 1 by decide))
theorem one_g (hE : Plain E) (y : Or) (hr : rcB y.r = true) : Gives Try.prog E ra base 0 22 [y.x.v, y.r.v] (hp 0 []) fun v h' =>
    (y.none = true → v = orNone.out y ∧ h' = hp 0 (orNone.blks' y)) ∧ (y.none = false → v = orSome.out y ∧ h' = hp 0 (orSome.blks' y)) := by
  have hS := SM_ok (ra := ra) (base := base) hE
  obtain ⟨⟨k, a, b, g⟩, ⟨ky, t, v, s, e, l⟩⟩ := y
  obtain ⟨hk, hv⟩ := rc_iff.1 hr
  simp only at hk hv
  cases hd : doesB ⟨k, a, b, g⟩ with
  | true =>
    obtain ⟨h1, h2, h3, h4⟩ := does_kind hd
    simp only at h1 h2 h3 h4
    rcases h1 with rfl | rfl | rfl | rfl
    · exact one_g0 hE hS hd
    · exact one_g1 hE hS hd hk
    · exact one_g2 hE hS hd
    · rcases h4 rfl with rfl | rfl | rfl
      · exact one_g3a hE hS hd hv
      · exact one_g3b hE hS hd hv
      · exact one_g3c hE hS hd hv
  | false =>
    have hn : ¬ classE ⟨k, a, b, g⟩ = 0 ∨ (classE ⟨k, a, b, g⟩ = 0 ∧ mayB ⟨k, a, b, g⟩ = false) := by
      by_cases hc : classE ⟨k, a, b, g⟩ = 0
      · refine .inr ⟨hc, ?_⟩
        cases hm : mayB ⟨k, a, b, g⟩ with
        | true => rw [does_iff.2 ⟨hm, hc⟩] at hd; cases hd
        | false => rfl
      · exact .inl hc
    have main : OneQ ⟨⟨k, a, b, g⟩, ⟨ky, t, v, s, e, l⟩⟩ (.ret, mkT 1 [(0, .slice (.own 0 0 0 6) 1 (some 1))], hp 0 [(Rs.of [⟨ky, t, v, s, e, l⟩]).blk]) :=
      one_end (l := [⟨ky, t, v, s, e, l⟩]) (res_not hd) (by simp) (cap_one (.inr (.inr (.inl hd))))
    rcases hn with hn | ⟨hn, hm⟩
    · refine (gives_of_tree hE (wE hE hS) hS (hp_below _) (one_cl E k a b g ky t v s e l) (Tree.holds_mono (Q := OneQ ⟨⟨k, a, b, g⟩, ⟨ky, t, v, s, e, l⟩⟩) (fun _ h => h) ?_)).2
      have q1 : decide (classE ⟨k, a, b, g⟩ = 0) = false := decide_eq_false hn
      simp only [Tree.holds, decide_true, Bool.and_self, Bool.and_true, Bool.true_and, true_and, q1, Bool.not_false]
      exact ⟨fun _ => main, fun _ => ⟨fun _ => main, fun _ => main⟩⟩
    · refine (gives_of_tree hE (wE hE hS) hS (hp_below _) (one_no E k a b g ky t v s e l) (Tree.holds_mono (Q := OneQ ⟨⟨k, a, b, g⟩, ⟨ky, t, v, s, e, l⟩⟩) (fun _ h => h) ?_)).2
      have q1 : decide (classE ⟨k, a, b, g⟩ = 0) = true := decide_eq_true hn
      simp only [Tree.holds, decide_true, Bool.and_self, Bool.and_true, Bool.true_and, true_and, q1, hm, Bool.not_false, Bool.not_true]
      exact ⟨fun _ => main, fun _ => ⟨fun _ => main, fun _ => main⟩⟩
end
end Go.Proofs.Ytbfebjmmpiffpaa
