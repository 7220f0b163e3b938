/- bins: BinEven: the whole. -/
import Derived.Test.YtcgebafffkpmfaaP07b
set_option linter.unusedSimpArgs false
namespace Go.Proofs.Ytcgebafffkpmfaa
open Ab

section
variable {ra : Nat → Nat → Nat × Nat} {base : Nat}

theorem tail_takes1 (n : Nat) (hn : n < 30) : Takes Try.prog noSeg ra base 0 (codeOf 3 p4) (mkT 150 (k4I ⟨1, n, [], [], []⟩)) (hp 0 (k4B ⟨1, n, hasOf 1, zerosI 4, zerosI n⟩)) fun z => z = (.ret, mkT 150 [(6, .bool true)], hp 0 []) := by
  have hP : k7P ⟨n, zerosI n, 1, [1]⟩ = true := k7P_iff.2 ⟨(by decide : 1 ≤ 1), (by decide : 1 ≤ 3), hn, (by decide : ([1] : List Int) = turnsL 1 1), rfl⟩
  have hd : decide (n < 30) = true := decide_eq_true hn
  have f11 : ∀ n, n < 30 → decide (wr .i64 ((cntT (turnsL 1 n)).getD 1 0 + 1) < (cntT (turnsL 1 n)).getD 1 0) = false := fun n h => evenW_ok (w := 0) (n := n) (i := 0) (k := 0) (by decide) h (by decide) (by decide)
  refine takes_of_treeQ noE_plain (W_ok S2_ok noL_ok) TC_ok (f := 3) (.inr (by kernel_rfl)) (hp_below _) (tail1 n) ?_
  by_cases h0 : n = 0
  · subst h0
    have hN : noN ⟨0, zerosI 0, 1, [1]⟩ = true := rfl
    have e : cntT [] = cntT (turnsL 1 0) := rfl
    simp only [TreeQ.holds, hN, hP, hd, e, decide_true, Bool.and_self, Bool.and_true, Bool.true_and, true_and, Bool.not_true, Bool.false_eq_true, false_implies, and_true, forall_const]
    refine ⟨fun y hy => ?_, fun h => by cases h⟩
    subst hy
    simp only [f11 _ hn, Bool.false_eq_true, false_implies, forall_const, true_and, Bool.true_and]
    rfl
  · have hN : noN ⟨n, zerosI n, 1, [1]⟩ = false := by
      cases hh : noN ⟨n, zerosI n, 1, [1]⟩ with
      | false => rfl
      | true => exact absurd (Nat.eq_of_beq_eq_true hh) h0
    have hV : k8V ⟨1, n, hasOf 1, zerosI 4, zerosI n, .slice (.own 3 0 0 1) n none, turnsL 1 n⟩ = true := by
      show (decide (n = n) && decide ((turnsL 1 n).length = n)) = true
      rw [turnsL_len]; simp
    have hO : okT (turnsL 1 n) = true := okTs_ok (w := 0) (by decide) hn
    have hV : k8V ⟨1, n, [0, 8, 0, 0], [0, 0, 0, 0], zerosI n, .slice (.own 3 0 0 1) n none, turnsL 1 n⟩ = true := hV
    simp only [TreeQ.holds, hN, hP, hd, hV, hO, decide_true, Bool.and_self, Bool.and_true, Bool.true_and, true_and, Bool.not_false, Bool.false_eq_true, false_implies, and_true, forall_const]
    intro y hy
    subst hy
    simp only [f11 _ hn, Bool.false_eq_true, false_implies, forall_const, true_and, Bool.true_and]
    rfl

theorem tail_takes2 (n : Nat) (hn : n < 30) : Takes Try.prog noSeg ra base 0 (codeOf 3 p4) (mkT 150 (k4I ⟨2, n, [], [], []⟩)) (hp 0 (k4B ⟨2, n, hasOf 2, zerosI 4, zerosI n⟩)) fun z => z = (.ret, mkT 150 [(6, .bool true)], hp 0 []) := by
  have hP : k7P ⟨n, zerosI n, 2, [1, 2]⟩ = true := k7P_iff.2 ⟨(by decide : 1 ≤ 2), (by decide : 2 ≤ 3), hn, (by decide : ([1, 2] : List Int) = turnsL 2 2), rfl⟩
  have hd : decide (n < 30) = true := decide_eq_true hn
  have f11 : ∀ n, n < 30 → decide (wr .i64 ((cntT (turnsL 2 n)).getD 1 0 + 1) < (cntT (turnsL 2 n)).getD 1 0) = false := fun n h => evenW_ok (w := 1) (n := n) (i := 0) (k := 0) (by decide) h (by decide) (by decide)
  have f12 : ∀ n, n < 30 → decide (wr .i64 ((cntT (turnsL 2 n)).getD 2 0 + 1) < (cntT (turnsL 2 n)).getD 1 0) = false := fun n h => evenW_ok (w := 1) (n := n) (i := 0) (k := 1) (by decide) h (by decide) (by decide)
  have f21 : ∀ n, n < 30 → decide (wr .i64 ((cntT (turnsL 2 n)).getD 1 0 + 1) < (cntT (turnsL 2 n)).getD 2 0) = false := fun n h => evenW_ok (w := 1) (n := n) (i := 1) (k := 0) (by decide) h (by decide) (by decide)
  have f22 : ∀ n, n < 30 → decide (wr .i64 ((cntT (turnsL 2 n)).getD 2 0 + 1) < (cntT (turnsL 2 n)).getD 2 0) = false := fun n h => evenW_ok (w := 1) (n := n) (i := 1) (k := 1) (by decide) h (by decide) (by decide)
  refine takes_of_treeQ noE_plain (W_ok S2_ok noL_ok) TC_ok (f := 3) (.inr (by kernel_rfl)) (hp_below _) (tail2 n) ?_
  by_cases h0 : n = 0
  · subst h0
    have hN : noN ⟨0, zerosI 0, 2, [1, 2]⟩ = true := rfl
    have e : cntT [] = cntT (turnsL 2 0) := rfl
    simp only [TreeQ.holds, hN, hP, hd, e, decide_true, Bool.and_self, Bool.and_true, Bool.true_and, true_and, Bool.not_true, Bool.false_eq_true, false_implies, and_true, forall_const]
    refine ⟨fun y hy => ?_, fun h => by cases h⟩
    subst hy
    simp only [f11 _ hn, f12 _ hn, f21 _ hn, f22 _ hn, Bool.false_eq_true, false_implies, forall_const, true_and, Bool.true_and]
    rfl
  · have hN : noN ⟨n, zerosI n, 2, [1, 2]⟩ = false := by
      cases hh : noN ⟨n, zerosI n, 2, [1, 2]⟩ with
      | false => rfl
      | true => exact absurd (Nat.eq_of_beq_eq_true hh) h0
    have hV : k8V ⟨2, n, hasOf 2, zerosI 4, zerosI n, .slice (.own 3 0 0 1) n none, turnsL 2 n⟩ = true := by
      show (decide (n = n) && decide ((turnsL 2 n).length = n)) = true
      rw [turnsL_len]; simp
    have hO : okT (turnsL 2 n) = true := okTs_ok (w := 1) (by decide) hn
    have hV : k8V ⟨2, n, [0, 4, 4, 0], [0, 0, 0, 0], zerosI n, .slice (.own 3 0 0 1) n none, turnsL 2 n⟩ = true := hV
    simp only [TreeQ.holds, hN, hP, hd, hV, hO, decide_true, Bool.and_self, Bool.and_true, Bool.true_and, true_and, Bool.not_false, Bool.false_eq_true, false_implies, and_true, forall_const]
    intro y hy
    subst hy
    simp only [f11 _ hn, f12 _ hn, f21 _ hn, f22 _ hn, Bool.false_eq_true, false_implies, forall_const, true_and, Bool.true_and]
    rfl

theorem tail_takes3 (n : Nat) (hn : n < 30) : Takes Try.prog noSeg ra base 0 (codeOf 3 p4) (mkT 150 (k4I ⟨3, n, [], [], []⟩)) (hp 0 (k4B ⟨3, n, hasOf 3, zerosI 4, zerosI n⟩)) fun z => z = (.ret, mkT 150 [(6, .bool true)], hp 0 []) := by
  have hP : k7P ⟨n, zerosI n, 3, [1, 2, 3]⟩ = true := k7P_iff.2 ⟨(by decide : 1 ≤ 3), (by decide : 3 ≤ 3), hn, (by decide : ([1, 2, 3] : List Int) = turnsL 3 3), rfl⟩
  have hd : decide (n < 30) = true := decide_eq_true hn
  have f11 : ∀ n, n < 30 → decide (wr .i64 ((cntT (turnsL 3 n)).getD 1 0 + 1) < (cntT (turnsL 3 n)).getD 1 0) = false := fun n h => evenW_ok (w := 2) (n := n) (i := 0) (k := 0) (by decide) h (by decide) (by decide)
  have f12 : ∀ n, n < 30 → decide (wr .i64 ((cntT (turnsL 3 n)).getD 2 0 + 1) < (cntT (turnsL 3 n)).getD 1 0) = false := fun n h => evenW_ok (w := 2) (n := n) (i := 0) (k := 1) (by decide) h (by decide) (by decide)
  have f13 : ∀ n, n < 30 → decide (wr .i64 ((cntT (turnsL 3 n)).getD 3 0 + 1) < (cntT (turnsL 3 n)).getD 1 0) = false := fun n h => evenW_ok (w := 2) (n := n) (i := 0) (k := 2) (by decide) h (by decide) (by decide)
  have f21 : ∀ n, n < 30 → decide (wr .i64 ((cntT (turnsL 3 n)).getD 1 0 + 1) < (cntT (turnsL 3 n)).getD 2 0) = false := fun n h => evenW_ok (w := 2) (n := n) (i := 1) (k := 0) (by decide) h (by decide) (by decide)
  have f22 : ∀ n, n < 30 → decide (wr .i64 ((cntT (turnsL 3 n)).getD 2 0 + 1) < (cntT (turnsL 3 n)).getD 2 0) = false := fun n h => evenW_ok (w := 2) (n := n) (i := 1) (k := 1) (by decide) h (by decide) (by decide)
  have f23 : ∀ n, n < 30 → decide (wr .i64 ((cntT (turnsL 3 n)).getD 3 0 + 1) < (cntT (turnsL 3 n)).getD 2 0) = false := fun n h => evenW_ok (w := 2) (n := n) (i := 1) (k := 2) (by decide) h (by decide) (by decide)
  have f31 : ∀ n, n < 30 → decide (wr .i64 ((cntT (turnsL 3 n)).getD 1 0 + 1) < (cntT (turnsL 3 n)).getD 3 0) = false := fun n h => evenW_ok (w := 2) (n := n) (i := 2) (k := 0) (by decide) h (by decide) (by decide)
  have f32 : ∀ n, n < 30 → decide (wr .i64 ((cntT (turnsL 3 n)).getD 2 0 + 1) < (cntT (turnsL 3 n)).getD 3 0) = false := fun n h => evenW_ok (w := 2) (n := n) (i := 2) (k := 1) (by decide) h (by decide) (by decide)
  have f33 : ∀ n, n < 30 → decide (wr .i64 ((cntT (turnsL 3 n)).getD 3 0 + 1) < (cntT (turnsL 3 n)).getD 3 0) = false := fun n h => evenW_ok (w := 2) (n := n) (i := 2) (k := 2) (by decide) h (by decide) (by decide)
  refine takes_of_treeQ noE_plain (W_ok S2_ok noL_ok) TC_ok (f := 3) (.inr (by kernel_rfl)) (hp_below _) (tail3 n) ?_
  by_cases h0 : n = 0
  · subst h0
    have hN : noN ⟨0, zerosI 0, 3, [1, 2, 3]⟩ = true := rfl
    have e : cntT [] = cntT (turnsL 3 0) := rfl
    simp only [TreeQ.holds, hN, hP, hd, e, decide_true, Bool.and_self, Bool.and_true, Bool.true_and, true_and, Bool.not_true, Bool.false_eq_true, false_implies, and_true, forall_const]
    refine ⟨fun y hy => ?_, fun h => by cases h⟩
    subst hy
    simp only [f11 _ hn, f12 _ hn, f13 _ hn, f21 _ hn, f22 _ hn, f23 _ hn, f31 _ hn, f32 _ hn, f33 _ hn, Bool.false_eq_true, false_implies, forall_const, true_and, Bool.true_and]
    rfl
  · have hN : noN ⟨n, zerosI n, 3, [1, 2, 3]⟩ = false := by
      cases hh : noN ⟨n, zerosI n, 3, [1, 2, 3]⟩ with
      | false => rfl
      | true => exact absurd (Nat.eq_of_beq_eq_true hh) h0
    have hV : k8V ⟨3, n, hasOf 3, zerosI 4, zerosI n, .slice (.own 3 0 0 1) n none, turnsL 3 n⟩ = true := by
      show (decide (n = n) && decide ((turnsL 3 n).length = n)) = true
      rw [turnsL_len]; simp
    have hO : okT (turnsL 3 n) = true := okTs_ok (w := 2) (by decide) hn
    have hV : k8V ⟨3, n, [0, 3, 3, 2], [0, 0, 0, 0], zerosI n, .slice (.own 3 0 0 1) n none, turnsL 3 n⟩ = true := hV
    simp only [TreeQ.holds, hN, hP, hd, hV, hO, decide_true, Bool.and_self, Bool.and_true, Bool.true_and, true_and, Bool.not_false, Bool.false_eq_true, false_implies, and_true, forall_const]
    intro y hy
    subst hy
    simp only [f11 _ hn, f12 _ hn, f13 _ hn, f21 _ hn, f22 _ hn, f23 _ hn, f31 _ hn, f32 _ hn, f33 _ hn, Bool.false_eq_true, false_implies, forall_const, true_and, Bool.true_and]
    rfl

theorem k4P_iff {y : K4} : k4P y = true ↔ 1 ≤ y.w ∧ y.w ≤ 3 ∧ y.n < 30 ∧ y.h = hasOf y.w ∧ y.t = zerosI 4 ∧ y.l = zerosI y.n := by
  simp only [k4P, Bool.and_eq_true, decide_eq_true_eq]

theorem k4_takes (y : K4) (hy : k4D.pre y = true) : Takes Try.prog noSeg ra base 0 (codeOf 3 p4) (mkT 150 (k4D.ins y)) (hp 0 (k4D.blks y)) fun z => PostL 150 y z k4D.alts := by
  obtain ⟨h1, h2, h3, h4, h5, h6⟩ := k4P_iff.1 hy
  obtain ⟨w, n, h, t, l⟩ := y
  simp only at h1 h2 h3 h4 h5 h6
  subst h4; subst h5; subst h6
  rcases (by omega : w = 1 ∨ w = 2 ∨ w = 3) with rfl | rfl | rfl
  · exact (tail_takes1 n h3).mono fun z hz => ⟨(), trivial, hz⟩
  · exact (tail_takes2 n h3).mono fun z hz => ⟨(), trivial, hz⟩
  · exact (tail_takes3 n h3).mono fun z hz => ⟨(), trivial, hz⟩

theorem TB_ok : ToldsOK Try.prog noSeg ra base 0 TB := sumT_ok noT_ok rfl (toldR_ok (c := codeOf 3 p4) (by kernel_rfl) k4_takes)

theorem tmod30 {m : Int} (h0 : 0 ≤ m) (h1 : m < 256) : 0 ≤ wr .i64 (Int.tmod m 30) ∧ wr .i64 (Int.tmod m 30) < 30 := by
  have e : Int.tmod m 30 = m % 30 := Int.tmod_eq_emod_of_nonneg h0
  have h2 : 0 ≤ m % 30 := Int.emod_nonneg _ (by decide)
  have h3 : m % 30 < 30 := Int.emod_lt_of_pos _ (by decide)
  rw [e, wr_in ⟨by omega, by omega⟩]
  exact ⟨h2, h3⟩

theorem k3_takes (y : K3) (hy : k3D.pre y = true) : Takes Try.prog noSeg ra base 0 (codeOf 3 p3) (mkT 150 (k3D.ins y)) (hp 0 (k3D.blks y)) fun z => PostL 150 y z k3D.alts := by
  have hE := noE_plain
  obtain ⟨w, m⟩ := y
  simp only [k3D, Bool.and_eq_true, decide_eq_true_eq] at hy
  obtain ⟨h1, h2, h3, h4⟩ := hy
  obtain ⟨m1, m2⟩ := tmod30 h3 h4
  rcases (by omega : w = 1 ∨ w = 2 ∨ w = 3) with rfl | rfl | rfl
  · refine takes_of_treeQ hE w1 TB_ok (f := 3) (.inr (by kernel_rfl)) (hp_below _) (rest1 m) ?_
    generalize wr .i64 (Int.tmod m 30) = x at m1 m2 ⊢
    have hP : k4P ⟨1, x.toNat, [0, 8, 0, 0], [0, 0, 0, 0], List.replicate x.toNat 0⟩ = true := k4P_iff.2 ⟨(by decide : (1 : Int) ≤ 1), (by decide : (1 : Int) ≤ 3), by simp only; omega, rfl, rfl, rfl⟩
    simp only [TreeQ.holds, hP, decide_true, Bool.and_self, Bool.and_true, Bool.true_and, true_and, forall_const, decide_eq_true_eq, Bool.and_eq_true, Int.le_refl]
    exact ⟨by omega, (), trivial, rfl⟩
  · refine takes_of_treeQ hE w1 TB_ok (f := 3) (.inr (by kernel_rfl)) (hp_below _) (rest2 m) ?_
    generalize wr .i64 (Int.tmod m 30) = x at m1 m2 ⊢
    have hP : k4P ⟨2, x.toNat, [0, 4, 4, 0], [0, 0, 0, 0], List.replicate x.toNat 0⟩ = true := k4P_iff.2 ⟨(by decide : (1 : Int) ≤ 2), (by decide : (2 : Int) ≤ 3), by simp only; omega, rfl, rfl, rfl⟩
    simp only [TreeQ.holds, hP, decide_true, Bool.and_self, Bool.and_true, Bool.true_and, true_and, forall_const, decide_eq_true_eq, Bool.and_eq_true, Int.le_refl]
    exact ⟨by omega, (), trivial, rfl⟩
  · refine takes_of_treeQ hE w1 TB_ok (f := 3) (.inr (by kernel_rfl)) (hp_below _) (rest3 m) ?_
    generalize wr .i64 (Int.tmod m 30) = x at m1 m2 ⊢
    have hP : k4P ⟨3, x.toNat, [0, 3, 3, 2], [0, 0, 0, 0], List.replicate x.toNat 0⟩ = true := k4P_iff.2 ⟨(by decide : (1 : Int) ≤ 3), (by decide : (3 : Int) ≤ 3), by simp only; omega, rfl, rfl, rfl⟩
    simp only [TreeQ.holds, hP, decide_true, Bool.and_self, Bool.and_true, Bool.true_and, true_and, forall_const, decide_eq_true_eq, Bool.and_eq_true, Int.le_refl]
    exact ⟨by omega, (), trivial, rfl⟩

theorem TA_ok : ToldsOK Try.prog noSeg ra base 0 TA :=
  sumT_ok (sumT_ok (sumT_ok noT_ok rfl (toldR_ok (c := codeOf 3 p3) (by kernel_rfl) k3_takes)) rfl (toldR_ok (c := .loop (codeOf 3 (false :: p2))) (by kernel_rfl) k2_takes)) rfl (toldR_ok (c := .loop (codeOf 3 (false :: p1))) (by kernel_rfl) k1_takes)

theorem tmod3 {a : Int} (h0 : 0 ≤ a) (h1 : a < 256) : 1 ≤ wr .i64 (1 + wr .i64 (Int.tmod a 3)) ∧ wr .i64 (1 + wr .i64 (Int.tmod a 3)) ≤ 3 := by
  have e : Int.tmod a 3 = a % 3 := Int.tmod_eq_emod_of_nonneg h0
  have h2 : 0 ≤ a % 3 := Int.emod_nonneg _ (by decide)
  have h3 : a % 3 < 3 := Int.emod_lt_of_pos _ (by decide)
  rw [e, wr_in (v := a % 3) ⟨by omega, by omega⟩, wr_in ⟨by omega, by omega⟩]
  omega

theorem even_gives {key a m : Int} (h1 : 0 ≤ key ∧ key < 4294967296) (h2 : 0 ≤ a ∧ a < 256) (h3 : 0 ≤ m ∧ m < 256) : Gives Try.prog noSeg ra base 0 3 [.int .u32 key, .int .u8 a, .int .u8 m] (hp 0 []) fun v _ => v = .bool true := by
  obtain ⟨t1, t2⟩ := tmod3 h2.1 h2.2
  refine gives_of_treeQ noE_plain w1 TA_ok (hp_below _) (even_call key a m) ?_
  generalize wr .i64 (1 + wr .i64 (Int.tmod a 3)) = x at t1 t2 ⊢
  simp only [TreeQ.holds, decide_true, Bool.and_self, Bool.and_true, Bool.true_and, true_and, forall_const, decide_eq_true_eq, Bool.and_eq_true]
  exact ⟨h1, fun y hy => ⟨hy, ⟨t1, t2, h3.1, h3.2⟩, _, rfl, rfl⟩⟩
end
end Go.Proofs.Ytcgebafffkpmfaa
