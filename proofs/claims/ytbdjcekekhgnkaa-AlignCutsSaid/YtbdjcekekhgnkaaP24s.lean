/- align: AlignCuts: the whole, all shapes. -/
import Derived.Test.YtbdjcekekhgnkaaP24q
set_option linter.unusedSimpArgs false
namespace Go.Proofs.Ytbdjcekekhgnkaa
open Ab

theorem okHeB_of {T : Tc} {y : He} (h : okHe T y) : okHeB T y = true := by classical exact decide_eq_true h

section
variable {ra : Nat → Nat → Nat × Nat} {base : Nat}

theorem cuts_nnn {T : Tc} (h : Ways T) (hF : T.F = []) : Gives Try.prog (tabF T) ra base 0 4 [.nils, .nils, .nils] (hp 0 []) fun v _ => v = .bool true := by
  refine gives_of_treeQ (tabF_plain T) (W_ok (S6_ok h) noL_ok) (THe_ok h hF) (hp_below _) (cu_nnn T) ?_
  have H := okHeB_of (T := T) (y := ⟨true, 1, .nils, .nils, newAl ⟨1, 0, 0⟩⟩) ⟨fun h => (by cases h), by decide, by decide, fun _ => rfl, by decide, Nat.zero_le _, .inl ⟨rfl, rfl⟩, .inl rfl, fun q h => (by cases h), rfl⟩
  exact ⟨H, fun _ _ => ⟨_, rfl, rfl⟩⟩

theorem cuts_nns {T : Tc} (h : Ways T) (hF : T.F = []) : Gives Try.prog (tabF T) ra base 0 4 [.nils, .nils, .slice (.ro 4 0 0 0) T.o.length none] (hp 0 []) fun v _ => v = .bool true := by
  refine gives_of_treeQ (tabF_plain T) (W_ok (S6_ok h) noL_ok) (THe_ok h hF) (hp_below _) (cu_nns T T.o.length) ?_
  have H0 : (0 : Nat) = 0 → okHeB T ⟨true, 1, .nils, .slice (.ro 4 0 0 0) T.o.length none, newAl ⟨1, 0, 0⟩⟩ = true := fun _ => okHeB_of ⟨fun h => (by cases h), Nat.le_refl 1, by show 1 ≤ 4; omega, fun _ => rfl, Nat.zero_le _, Nat.zero_le _, .inl ⟨rfl, rfl⟩, .inr ⟨_, rfl⟩, fun q h => by cases h; exact Nat.le_refl _, rfl⟩
  have k1 : newOk ⟨1, 0, 0⟩ = true := newOk_iff.2 ⟨Int.le_refl 1, by show (1 : Int) ≤ 16; omega, Int.le_refl 0, by show (0 : Int) ≤ 16; omega, Int.le_refl 0⟩
  simp only [TreeQ.holds, decide_true, Bool.and_self, Bool.and_true, Bool.true_and, true_and, decide_eq_true_eq, decide_eq_false_iff_not, Bool.and_eq_true, Bool.not_eq_true', k1, true_implies, reduceCtorEq, false_implies, and_true]
  exact ⟨H0 rfl, fun _ => ⟨_, rfl, rfl⟩⟩

theorem cuts_nsn {T : Tc} (h : Ways T) (hF : T.F = []) : Gives Try.prog (tabF T) ra base 0 4 [.nils, .slice (.ro 2 0 0 0) T.ms.length none, .nils] (hp 0 []) fun v _ => v = .bool true := by
  refine gives_of_treeQ (tabF_plain T) (W_ok (S6_ok h) noL_ok) (THe_ok h hF) (hp_below _) (cu_nsn T T.ms.length) ?_
  have a2 : (0 : Int) ≤ (if 3 < (T.ms.length : Int) then 3 else (T.ms.length : Int)) ∧ (if 3 < (T.ms.length : Int) then 3 else (T.ms.length : Int)) ≤ (T.ms.length : Int) ∧ (if 3 < (T.ms.length : Int) then 3 else (T.ms.length : Int)) ≤ 3 := by split <;> omega
  generalize (if 3 < (T.ms.length : Int) then 3 else (T.ms.length : Int)) = m at a2 ⊢
  obtain ⟨b4, b5, b6⟩ := a2
  have H0 : (0 : Nat) = 0 → okHeB T ⟨true, 1, .slice (.ro 2 0 0 0) m.toNat none, .nils, newAl ⟨1, (m.toNat : Int), 0⟩⟩ = true := fun _ => okHeB_of ⟨fun h => (by cases h), Nat.le_refl 1, by show 1 ≤ 4; omega, fun _ => rfl, by simp only [He.m, newAl, Int.toNat_natCast]; omega, by simp only [He.m, newAl, Int.toNat_natCast]; omega, .inr (by simp only [He.m, newAl, Int.toNat_natCast]), .inl rfl, fun q h => (by cases h), by simp only [He.m, newAl, Int.toNat_natCast]; rfl⟩
  have k1 : newOk ⟨1, (m.toNat : Int), 0⟩ = true := newOk_iff.2 ⟨Int.le_refl 1, by show (1 : Int) ≤ 16; omega, by simp only; omega, by simp only; omega, Int.le_refl 0⟩
  simp only [TreeQ.holds, decide_true, Bool.and_self, Bool.and_true, Bool.true_and, true_and, decide_eq_true_eq, decide_eq_false_iff_not, Bool.and_eq_true, Bool.not_eq_true', k1, true_implies, reduceCtorEq, false_implies, and_true]
  exact ⟨⟨b4, b5⟩, H0 rfl, fun _ => ⟨_, rfl, rfl⟩⟩

theorem cuts_nss {T : Tc} (h : Ways T) (hF : T.F = []) : Gives Try.prog (tabF T) ra base 0 4 [.nils, .slice (.ro 2 0 0 0) T.ms.length none, .slice (.ro 4 0 0 0) T.o.length none] (hp 0 []) fun v _ => v = .bool true := by
  refine gives_of_treeQ (tabF_plain T) (W_ok (S6_ok h) noL_ok) (THe_ok h hF) (hp_below _) (cu_nss T T.ms.length T.o.length) ?_
  have a2 : (0 : Int) ≤ (if 3 < (T.ms.length : Int) then 3 else (T.ms.length : Int)) ∧ (if 3 < (T.ms.length : Int) then 3 else (T.ms.length : Int)) ≤ (T.ms.length : Int) ∧ (if 3 < (T.ms.length : Int) then 3 else (T.ms.length : Int)) ≤ 3 := by split <;> omega
  generalize (if 3 < (T.ms.length : Int) then 3 else (T.ms.length : Int)) = m at a2 ⊢
  obtain ⟨b4, b5, b6⟩ := a2
  have H0 : (0 : Nat) = 0 → okHeB T ⟨true, 1, .slice (.ro 2 0 0 0) m.toNat none, .slice (.ro 4 0 0 0) T.o.length none, newAl ⟨1, (m.toNat : Int), 0⟩⟩ = true := fun _ => okHeB_of ⟨fun h => (by cases h), Nat.le_refl 1, by show 1 ≤ 4; omega, fun _ => rfl, by simp only [He.m, newAl, Int.toNat_natCast]; omega, by simp only [He.m, newAl, Int.toNat_natCast]; omega, .inr (by simp only [He.m, newAl, Int.toNat_natCast]), .inr ⟨_, rfl⟩, fun q h => by cases h; exact Nat.le_refl _, by simp only [He.m, newAl, Int.toNat_natCast]; rfl⟩
  have k1 : newOk ⟨1, (m.toNat : Int), 0⟩ = true := newOk_iff.2 ⟨Int.le_refl 1, by show (1 : Int) ≤ 16; omega, by simp only; omega, by simp only; omega, Int.le_refl 0⟩
  simp only [TreeQ.holds, decide_true, Bool.and_self, Bool.and_true, Bool.true_and, true_and, decide_eq_true_eq, decide_eq_false_iff_not, Bool.and_eq_true, Bool.not_eq_true', k1, true_implies, reduceCtorEq, false_implies, and_true]
  exact ⟨⟨b4, b5⟩, H0 rfl, fun _ => ⟨_, rfl, rfl⟩⟩

theorem cuts_snn {T : Tc} (h : Ways T) (hF : T.F = []) : Gives Try.prog (tabF T) ra base 0 4 [.slice (.ro 0 0 0 0) T.ns.length none, .nils, .nils] (hp 0 []) fun v _ => v = .bool true := by
  refine gives_of_treeQ (tabF_plain T) (W_ok (S6_ok h) noL_ok) (THe_ok h hF) (hp_below _) (cu_snn T T.ns.length) ?_
  have a1 : (0 : Int) ≤ (if 4 < (T.ns.length : Int) then 4 else (T.ns.length : Int)) ∧ (if 4 < (T.ns.length : Int) then 4 else (T.ns.length : Int)) ≤ (T.ns.length : Int) ∧ (if 4 < (T.ns.length : Int) then 4 else (T.ns.length : Int)) ≤ 4 := by split <;> omega
  generalize (if 4 < (T.ns.length : Int) then 4 else (T.ns.length : Int)) = n at a1 ⊢
  obtain ⟨b1, b2, b3⟩ := a1
  have H0 : n.toNat = 0 → okHeB T ⟨true, 1, .nils, .nils, newAl ⟨1, 0, 0⟩⟩ = true := fun _ => okHeB_of ⟨fun h => (by cases h), Nat.le_refl 1, by show 1 ≤ 4; omega, fun _ => rfl, Nat.zero_le _, Nat.zero_le _, .inl ⟨rfl, rfl⟩, .inl rfl, fun q h => (by cases h), rfl⟩
  have H1 : n.toNat ≠ 0 → okHeB T ⟨false, n.toNat, .nils, .nils, newAl ⟨(n.toNat : Int), 0, 0⟩⟩ = true := fun hn => okHeB_of ⟨fun _ => by show n.toNat ≤ _; omega, by show 1 ≤ n.toNat; omega, by show n.toNat ≤ 4; omega, fun h => (by cases h), Nat.zero_le _, Nat.zero_le _, .inl ⟨rfl, rfl⟩, .inl rfl, fun q h => (by cases h), rfl⟩
  have k1 : newOk ⟨1, 0, 0⟩ = true := newOk_iff.2 ⟨Int.le_refl 1, by show (1 : Int) ≤ 16; omega, Int.le_refl 0, by show (0 : Int) ≤ 16; omega, Int.le_refl 0⟩
  have k2 : n.toNat ≠ 0 → newOk ⟨(n.toNat : Int), 0, 0⟩ = true := fun hn => newOk_iff.2 ⟨by simp only; omega, by simp only; omega, by simp only; omega, by simp only; omega, Int.le_refl 0⟩
  simp only [TreeQ.holds, decide_true, Bool.and_self, Bool.and_true, Bool.true_and, true_and, decide_eq_true_eq, decide_eq_false_iff_not, Bool.and_eq_true, Bool.not_eq_true', k1, true_implies, reduceCtorEq, false_implies, and_true]
  refine ⟨⟨b1, b2⟩, fun hn => ⟨H0 (by omega), fun _ => ⟨_, rfl, rfl⟩⟩, fun hn => ?_⟩
  have hn' : n.toNat ≠ 0 := by omega
  simp only [k2 hn', true_implies, reduceCtorEq, false_implies, and_true, true_and]
  exact ⟨H1 hn', fun _ => ⟨_, rfl, rfl⟩⟩

theorem cuts_sns {T : Tc} (h : Ways T) (hF : T.F = []) : Gives Try.prog (tabF T) ra base 0 4 [.slice (.ro 0 0 0 0) T.ns.length none, .nils, .slice (.ro 4 0 0 0) T.o.length none] (hp 0 []) fun v _ => v = .bool true := by
  refine gives_of_treeQ (tabF_plain T) (W_ok (S6_ok h) noL_ok) (THe_ok h hF) (hp_below _) (cu_sns T T.ns.length T.o.length) ?_
  have a1 : (0 : Int) ≤ (if 4 < (T.ns.length : Int) then 4 else (T.ns.length : Int)) ∧ (if 4 < (T.ns.length : Int) then 4 else (T.ns.length : Int)) ≤ (T.ns.length : Int) ∧ (if 4 < (T.ns.length : Int) then 4 else (T.ns.length : Int)) ≤ 4 := by split <;> omega
  generalize (if 4 < (T.ns.length : Int) then 4 else (T.ns.length : Int)) = n at a1 ⊢
  obtain ⟨b1, b2, b3⟩ := a1
  have H0 : n.toNat = 0 → okHeB T ⟨true, 1, .nils, .slice (.ro 4 0 0 0) T.o.length none, newAl ⟨1, 0, 0⟩⟩ = true := fun _ => okHeB_of ⟨fun h => (by cases h), Nat.le_refl 1, by show 1 ≤ 4; omega, fun _ => rfl, Nat.zero_le _, Nat.zero_le _, .inl ⟨rfl, rfl⟩, .inr ⟨_, rfl⟩, fun q h => by cases h; exact Nat.le_refl _, rfl⟩
  have H1 : n.toNat ≠ 0 → okHeB T ⟨false, n.toNat, .nils, .slice (.ro 4 0 0 0) T.o.length none, newAl ⟨(n.toNat : Int), 0, 0⟩⟩ = true := fun hn => okHeB_of ⟨fun _ => by show n.toNat ≤ _; omega, by show 1 ≤ n.toNat; omega, by show n.toNat ≤ 4; omega, fun h => (by cases h), Nat.zero_le _, Nat.zero_le _, .inl ⟨rfl, rfl⟩, .inr ⟨_, rfl⟩, fun q h => by cases h; exact Nat.le_refl _, rfl⟩
  have k1 : newOk ⟨1, 0, 0⟩ = true := newOk_iff.2 ⟨Int.le_refl 1, by show (1 : Int) ≤ 16; omega, Int.le_refl 0, by show (0 : Int) ≤ 16; omega, Int.le_refl 0⟩
  have k2 : n.toNat ≠ 0 → newOk ⟨(n.toNat : Int), 0, 0⟩ = true := fun hn => newOk_iff.2 ⟨by simp only; omega, by simp only; omega, by simp only; omega, by simp only; omega, Int.le_refl 0⟩
  simp only [TreeQ.holds, decide_true, Bool.and_self, Bool.and_true, Bool.true_and, true_and, decide_eq_true_eq, decide_eq_false_iff_not, Bool.and_eq_true, Bool.not_eq_true', k1, true_implies, reduceCtorEq, false_implies, and_true]
  refine ⟨⟨b1, b2⟩, fun hn => ⟨H0 (by omega), fun _ => ⟨_, rfl, rfl⟩⟩, fun hn => ?_⟩
  have hn' : n.toNat ≠ 0 := by omega
  simp only [k2 hn', true_implies, reduceCtorEq, false_implies, and_true, true_and]
  exact ⟨H1 hn', fun _ => ⟨_, rfl, rfl⟩⟩

theorem cuts_ssn {T : Tc} (h : Ways T) (hF : T.F = []) : Gives Try.prog (tabF T) ra base 0 4 [.slice (.ro 0 0 0 0) T.ns.length none, .slice (.ro 2 0 0 0) T.ms.length none, .nils] (hp 0 []) fun v _ => v = .bool true := by
  refine gives_of_treeQ (tabF_plain T) (W_ok (S6_ok h) noL_ok) (THe_ok h hF) (hp_below _) (cu_ssn T T.ns.length T.ms.length) ?_
  have a1 : (0 : Int) ≤ (if 4 < (T.ns.length : Int) then 4 else (T.ns.length : Int)) ∧ (if 4 < (T.ns.length : Int) then 4 else (T.ns.length : Int)) ≤ (T.ns.length : Int) ∧ (if 4 < (T.ns.length : Int) then 4 else (T.ns.length : Int)) ≤ 4 := by split <;> omega
  have a2 : (0 : Int) ≤ (if 3 < (T.ms.length : Int) then 3 else (T.ms.length : Int)) ∧ (if 3 < (T.ms.length : Int) then 3 else (T.ms.length : Int)) ≤ (T.ms.length : Int) ∧ (if 3 < (T.ms.length : Int) then 3 else (T.ms.length : Int)) ≤ 3 := by split <;> omega
  generalize (if 4 < (T.ns.length : Int) then 4 else (T.ns.length : Int)) = n at a1 ⊢
  generalize (if 3 < (T.ms.length : Int) then 3 else (T.ms.length : Int)) = m at a2 ⊢
  obtain ⟨b1, b2, b3⟩ := a1
  obtain ⟨b4, b5, b6⟩ := a2
  have H0 : n.toNat = 0 → okHeB T ⟨true, 1, .slice (.ro 2 0 0 0) m.toNat none, .nils, newAl ⟨1, (m.toNat : Int), 0⟩⟩ = true := fun _ => okHeB_of ⟨fun h => (by cases h), Nat.le_refl 1, by show 1 ≤ 4; omega, fun _ => rfl, by simp only [He.m, newAl, Int.toNat_natCast]; omega, by simp only [He.m, newAl, Int.toNat_natCast]; omega, .inr (by simp only [He.m, newAl, Int.toNat_natCast]), .inl rfl, fun q h => (by cases h), by simp only [He.m, newAl, Int.toNat_natCast]; rfl⟩
  have H1 : n.toNat ≠ 0 → okHeB T ⟨false, n.toNat, .slice (.ro 2 0 0 0) m.toNat none, .nils, newAl ⟨(n.toNat : Int), (m.toNat : Int), 0⟩⟩ = true := fun hn => okHeB_of ⟨fun _ => by show n.toNat ≤ _; omega, by show 1 ≤ n.toNat; omega, by show n.toNat ≤ 4; omega, fun h => (by cases h), by simp only [He.m, newAl, Int.toNat_natCast]; omega, by simp only [He.m, newAl, Int.toNat_natCast]; omega, .inr (by simp only [He.m, newAl, Int.toNat_natCast]), .inl rfl, fun q h => (by cases h), by simp only [He.m, newAl, Int.toNat_natCast]⟩
  have k1 : newOk ⟨1, (m.toNat : Int), 0⟩ = true := newOk_iff.2 ⟨Int.le_refl 1, by show (1 : Int) ≤ 16; omega, by simp only; omega, by simp only; omega, Int.le_refl 0⟩
  have k2 : n.toNat ≠ 0 → newOk ⟨(n.toNat : Int), (m.toNat : Int), 0⟩ = true := fun hn => newOk_iff.2 ⟨by simp only; omega, by simp only; omega, by simp only; omega, by simp only; omega, Int.le_refl 0⟩
  simp only [TreeQ.holds, decide_true, Bool.and_self, Bool.and_true, Bool.true_and, true_and, decide_eq_true_eq, decide_eq_false_iff_not, Bool.and_eq_true, Bool.not_eq_true', k1, true_implies, reduceCtorEq, false_implies, and_true]
  refine ⟨⟨b1, b2⟩, ⟨b4, b5⟩, fun hn => ⟨H0 (by omega), fun _ => ⟨_, rfl, rfl⟩⟩, fun hn => ?_⟩
  have hn' : n.toNat ≠ 0 := by omega
  simp only [k2 hn', true_implies, reduceCtorEq, false_implies, and_true, true_and]
  exact ⟨H1 hn', fun _ => ⟨_, rfl, rfl⟩⟩

theorem cuts_sss {T : Tc} (h : Ways T) (hF : T.F = []) : Gives Try.prog (tabF T) ra base 0 4 [.slice (.ro 0 0 0 0) T.ns.length none, .slice (.ro 2 0 0 0) T.ms.length none, .slice (.ro 4 0 0 0) T.o.length none] (hp 0 []) fun v _ => v = .bool true := by
  refine gives_of_treeQ (tabF_plain T) (W_ok (S6_ok h) noL_ok) (THe_ok h hF) (hp_below _) (cu_sss T T.ns.length T.ms.length T.o.length) ?_
  have a1 : (0 : Int) ≤ (if 4 < (T.ns.length : Int) then 4 else (T.ns.length : Int)) ∧ (if 4 < (T.ns.length : Int) then 4 else (T.ns.length : Int)) ≤ (T.ns.length : Int) ∧ (if 4 < (T.ns.length : Int) then 4 else (T.ns.length : Int)) ≤ 4 := by split <;> omega
  have a2 : (0 : Int) ≤ (if 3 < (T.ms.length : Int) then 3 else (T.ms.length : Int)) ∧ (if 3 < (T.ms.length : Int) then 3 else (T.ms.length : Int)) ≤ (T.ms.length : Int) ∧ (if 3 < (T.ms.length : Int) then 3 else (T.ms.length : Int)) ≤ 3 := by split <;> omega
  generalize (if 4 < (T.ns.length : Int) then 4 else (T.ns.length : Int)) = n at a1 ⊢
  generalize (if 3 < (T.ms.length : Int) then 3 else (T.ms.length : Int)) = m at a2 ⊢
  obtain ⟨b1, b2, b3⟩ := a1
  obtain ⟨b4, b5, b6⟩ := a2
  have H0 : n.toNat = 0 → okHeB T ⟨true, 1, .slice (.ro 2 0 0 0) m.toNat none, .slice (.ro 4 0 0 0) T.o.length none, newAl ⟨1, (m.toNat : Int), 0⟩⟩ = true := fun _ => okHeB_of ⟨fun h => (by cases h), Nat.le_refl 1, by show 1 ≤ 4; omega, fun _ => rfl, by simp only [He.m, newAl, Int.toNat_natCast]; omega, by simp only [He.m, newAl, Int.toNat_natCast]; omega, .inr (by simp only [He.m, newAl, Int.toNat_natCast]), .inr ⟨_, rfl⟩, fun q h => by cases h; exact Nat.le_refl _, by simp only [He.m, newAl, Int.toNat_natCast]; rfl⟩
  have H1 : n.toNat ≠ 0 → okHeB T ⟨false, n.toNat, .slice (.ro 2 0 0 0) m.toNat none, .slice (.ro 4 0 0 0) T.o.length none, newAl ⟨(n.toNat : Int), (m.toNat : Int), 0⟩⟩ = true := fun hn => okHeB_of ⟨fun _ => by show n.toNat ≤ _; omega, by show 1 ≤ n.toNat; omega, by show n.toNat ≤ 4; omega, fun h => (by cases h), by simp only [He.m, newAl, Int.toNat_natCast]; omega, by simp only [He.m, newAl, Int.toNat_natCast]; omega, .inr (by simp only [He.m, newAl, Int.toNat_natCast]), .inr ⟨_, rfl⟩, fun q h => by cases h; exact Nat.le_refl _, by simp only [He.m, newAl, Int.toNat_natCast]⟩
  have k1 : newOk ⟨1, (m.toNat : Int), 0⟩ = true := newOk_iff.2 ⟨Int.le_refl 1, by show (1 : Int) ≤ 16; omega, by simp only; omega, by simp only; omega, Int.le_refl 0⟩
  have k2 : n.toNat ≠ 0 → newOk ⟨(n.toNat : Int), (m.toNat : Int), 0⟩ = true := fun hn => newOk_iff.2 ⟨by simp only; omega, by simp only; omega, by simp only; omega, by simp only; omega, Int.le_refl 0⟩
  simp only [TreeQ.holds, decide_true, Bool.and_self, Bool.and_true, Bool.true_and, true_and, decide_eq_true_eq, decide_eq_false_iff_not, Bool.and_eq_true, Bool.not_eq_true', k1, true_implies, reduceCtorEq, false_implies, and_true]
  refine ⟨⟨b1, b2⟩, ⟨b4, b5⟩, fun hn => ⟨H0 (by omega), fun _ => ⟨_, rfl, rfl⟩⟩, fun hn => ?_⟩
  have hn' : n.toNat ≠ 0 := by omega
  simp only [k2 hn', true_implies, reduceCtorEq, false_implies, and_true, true_and]
  exact ⟨H1 hn', fun _ => ⟨_, rfl, rfl⟩⟩

end

end Go.Proofs.Ytbdjcekekhgnkaa
