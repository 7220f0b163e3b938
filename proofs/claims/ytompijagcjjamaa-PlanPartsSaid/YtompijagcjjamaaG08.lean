/- Parts of the walk: put and Copy keep their contracts, by shape; Copy keeps its contract; PlanParts: contracts on plans of one's own; the pieces of the law; contracts of the functions that take a plan of one's own; PlanParts: plans by columns (so that what is told again stays as it is written); contracts; the pieces of the law; contracts on plans by columns; SM's soundness, by shape; what is told again is the same; trees for any shape. -/
import Derived.Test.YtompijagcjjamaaG07
import Derived.Test.YtompijagcjjamaaG06

set_option linter.unusedSimpArgs false
set_option linter.unusedVariables false
namespace Go.Proofs.Ytompijagcjjamaa
open Ab
theorem isNilO_iff {l : List O4} : isNilO l = true ↔ l = [] := by cases l <;> simp [isNilO]
theorem zO_iff {x : O4} : zO x = true ↔ x = z4 := by
  obtain ⟨k, a, b, g⟩ := x
  simp [zO, z4]
theorem normB_iff {h : Sh} {y : Pl} : normB h y = true ↔ y.norm h := by
  obtain ⟨e, f, t, u⟩ := h
  cases e <;> cases f <;> cases t <;> cases u <;> simp [normB, Pl.norm, Sh.u2, isNilO_iff, zO_iff]
section
variable {E : Nat → Nat → Seg} {ra : Nat → Nat → Nat × Nat} {base : Nat}
theorem put_told0000 (hE : Plain E) : ToldsOK Try.prog E ra base 4 (ptT ⟨false, false, false, false⟩) :=
  sumT_ok noT_ok rfl (toldR_ok (c := codeOf 15 pPt) (by kernel_rfl) fun x hx => put_loop0000 hE (normB_iff.1 (by simp only [ptD, okPt, Bool.and_eq_true] at hx; exact hx.1)) hx)
theorem put0000 (hE : Plain E) (x : PuX) (hx : (puD ⟨false, false, false, false⟩).pre x = true) : Gives Try.prog E ra base 4 15 ((puD ⟨false, false, false, false⟩).args x) (hp 0 ((puD ⟨false, false, false, false⟩).blks x)) fun v h' => v = (puD ⟨false, false, false, false⟩).out x ∧ h' = hp 0 ((puD ⟨false, false, false, false⟩).blks' x) := by
  obtain ⟨⟨pre, o1, q1, ⟨k2, a2, b2, g2⟩, q2, la, ep⟩, n⟩ := x
  obtain ⟨k1, a1, b1, g1⟩ := o1
  have hx' := hx
  simp only [puD, Bool.and_eq_true, decide_eq_true_eq] at hx'
  obtain ⟨hN, hl, hn0, hn1⟩ := hx'
  have hN' := hN
  obtain ⟨hN1, hN2, hN3, hN4⟩ := normB_iff.1 hN
  simp only [Sh.u2, cond_true, cond_false, true_implies, Bool.false_eq_true, Bool.true_eq_false, false_implies] at hN1 hN2 hN3 hN4
  subst hN3
  cases hN4
  have fin : n < (pre.length : Int) → ∀ st, st = hp 0 ((⟨pre.set n.toNat bad, ⟨k1, a1, b1, g1⟩, q1, ⟨0, 0, 0, 0⟩, [], la, ep⟩ : Pl).inB ⟨false, false, false, false⟩) → st = hp 0 ((putP ⟨false, false, false, false⟩ ⟨pre, ⟨k1, a1, b1, g1⟩, q1, ⟨0, 0, 0, 0⟩, [], la, ep⟩ n).inB ⟨false, false, false, false⟩) := fun h1 st h2 => by rw [putP_pre h1]; exact h2
  have hok : ((pre.length : Nat) : Int) ≤ n → okPt ⟨false, false, false, false⟩ ⟨⟨pre, ⟨k1, a1, b1, g1⟩, q1, ⟨0, 0, 0, 0⟩, [], la, ep⟩, n, (pre.length : Int)⟩ = true := fun h1 => by
    simp only [okPt, Bool.and_eq_true, decide_eq_true_eq]
    exact ⟨hN', hl, (by first | exact trivial | exact rfl), h1, hn1⟩
  refine gives_of_treeQ hE (W_ok noS_ok noL_ok) (put_told0000 hE) (hp_below _) (pf0000 E pre q1 [] k1 a1 b1 g1 0 0 0 0 la ep n) ?_
  simp only [TreeQ.holds, rf_eq, un4_of, decide_true, Bool.and_self, Bool.and_true, Bool.true_and, true_and, Nat.zero_add, decide_eq_true_eq, decide_eq_false_iff_not, Bool.and_eq_true]
  refine ⟨fun h1 => ⟨⟨hn0, h1⟩, by omega, _, rfl, rfl, fin h1 _ ?_⟩, fun h1 => ⟨hok (by omega), fun _ _ => ⟨_, rfl, rfl, rfl⟩⟩⟩
  simp only [Pl.inB, Pl.boxI, Pl.stI, Pl.colI, Pl.qs, lsB, opsB_set, List.length_set, slV]
  rfl
theorem put_told0010 (hE : Plain E) : ToldsOK Try.prog E ra base 5 (ptT ⟨false, false, true, false⟩) :=
  sumT_ok noT_ok rfl (toldR_ok (c := codeOf 15 pPt) (by kernel_rfl) fun x hx => put_loop0010 hE (normB_iff.1 (by simp only [ptD, okPt, Bool.and_eq_true] at hx; exact hx.1)) hx)
theorem put0010 (hE : Plain E) (x : PuX) (hx : (puD ⟨false, false, true, false⟩).pre x = true) : Gives Try.prog E ra base 5 15 ((puD ⟨false, false, true, false⟩).args x) (hp 0 ((puD ⟨false, false, true, false⟩).blks x)) fun v h' => v = (puD ⟨false, false, true, false⟩).out x ∧ h' = hp 0 ((puD ⟨false, false, true, false⟩).blks' x) := by
  obtain ⟨⟨pre, o1, q1, ⟨k2, a2, b2, g2⟩, q2, la, ep⟩, n⟩ := x
  obtain ⟨k1, a1, b1, g1⟩ := o1
  have hx' := hx
  simp only [puD, Bool.and_eq_true, decide_eq_true_eq] at hx'
  obtain ⟨hN, hl, hn0, hn1⟩ := hx'
  have hN' := hN
  obtain ⟨hN1, hN2, hN3, hN4⟩ := normB_iff.1 hN
  simp only [Sh.u2, cond_true, cond_false, true_implies, Bool.false_eq_true, Bool.true_eq_false, false_implies] at hN1 hN2 hN3 hN4
  have fin : n < (pre.length : Int) → ∀ st, st = hp 0 ((⟨pre.set n.toNat bad, ⟨k1, a1, b1, g1⟩, q1, ⟨k2, a2, b2, g2⟩, q2, la, ep⟩ : Pl).inB ⟨false, false, true, false⟩) → st = hp 0 ((putP ⟨false, false, true, false⟩ ⟨pre, ⟨k1, a1, b1, g1⟩, q1, ⟨k2, a2, b2, g2⟩, q2, la, ep⟩ n).inB ⟨false, false, true, false⟩) := fun h1 st h2 => by rw [putP_pre h1]; exact h2
  have hok : ((pre.length : Nat) : Int) ≤ n → okPt ⟨false, false, true, false⟩ ⟨⟨pre, ⟨k1, a1, b1, g1⟩, q1, ⟨k2, a2, b2, g2⟩, q2, la, ep⟩, n, (pre.length : Int)⟩ = true := fun h1 => by
    simp only [okPt, Bool.and_eq_true, decide_eq_true_eq]
    exact ⟨hN', hl, (by first | exact trivial | exact rfl), h1, hn1⟩
  refine gives_of_treeQ hE (W_ok noS_ok noL_ok) (put_told0010 hE) (hp_below _) (pf0010 E pre q1 q2 k1 a1 b1 g1 k2 a2 b2 g2 la ep n) ?_
  simp only [TreeQ.holds, rf_eq, un4_of, decide_true, Bool.and_self, Bool.and_true, Bool.true_and, true_and, Nat.zero_add, decide_eq_true_eq, decide_eq_false_iff_not, Bool.and_eq_true]
  refine ⟨fun h1 => ⟨⟨hn0, h1⟩, by omega, _, rfl, rfl, fin h1 _ ?_⟩, fun h1 => ⟨hok (by omega), fun _ _ => ⟨_, rfl, rfl, rfl⟩⟩⟩
  simp only [Pl.inB, Pl.boxI, Pl.stI, Pl.colI, Pl.qs, lsB, opsB_set, List.length_set, slV]
  rfl
theorem put_told0011 (hE : Plain E) : ToldsOK Try.prog E ra base 4 (ptT ⟨false, false, true, true⟩) :=
  sumT_ok noT_ok rfl (toldR_ok (c := codeOf 15 pPt) (by kernel_rfl) fun x hx => put_loop0011 hE (normB_iff.1 (by simp only [ptD, okPt, Bool.and_eq_true] at hx; exact hx.1)) hx)
theorem put0011 (hE : Plain E) (x : PuX) (hx : (puD ⟨false, false, true, true⟩).pre x = true) : Gives Try.prog E ra base 4 15 ((puD ⟨false, false, true, true⟩).args x) (hp 0 ((puD ⟨false, false, true, true⟩).blks x)) fun v h' => v = (puD ⟨false, false, true, true⟩).out x ∧ h' = hp 0 ((puD ⟨false, false, true, true⟩).blks' x) := by
  obtain ⟨⟨pre, o1, q1, ⟨k2, a2, b2, g2⟩, q2, la, ep⟩, n⟩ := x
  obtain ⟨k1, a1, b1, g1⟩ := o1
  have hx' := hx
  simp only [puD, Bool.and_eq_true, decide_eq_true_eq] at hx'
  obtain ⟨hN, hl, hn0, hn1⟩ := hx'
  have hN' := hN
  obtain ⟨hN1, hN2, hN3, hN4⟩ := normB_iff.1 hN
  simp only [Sh.u2, cond_true, cond_false, true_implies, Bool.false_eq_true, Bool.true_eq_false, false_implies] at hN1 hN2 hN3 hN4
  subst hN3
  have fin : n < (pre.length : Int) → ∀ st, st = hp 0 ((⟨pre.set n.toNat bad, ⟨k1, a1, b1, g1⟩, q1, ⟨k2, a2, b2, g2⟩, [], la, ep⟩ : Pl).inB ⟨false, false, true, true⟩) → st = hp 0 ((putP ⟨false, false, true, true⟩ ⟨pre, ⟨k1, a1, b1, g1⟩, q1, ⟨k2, a2, b2, g2⟩, [], la, ep⟩ n).inB ⟨false, false, true, true⟩) := fun h1 st h2 => by rw [putP_pre h1]; exact h2
  have hok : ((pre.length : Nat) : Int) ≤ n → okPt ⟨false, false, true, true⟩ ⟨⟨pre, ⟨k1, a1, b1, g1⟩, q1, ⟨k2, a2, b2, g2⟩, [], la, ep⟩, n, (pre.length : Int)⟩ = true := fun h1 => by
    simp only [okPt, Bool.and_eq_true, decide_eq_true_eq]
    exact ⟨hN', hl, (by first | exact trivial | exact rfl), h1, hn1⟩
  refine gives_of_treeQ hE (W_ok noS_ok noL_ok) (put_told0011 hE) (hp_below _) (pf0011 E pre q1 [] k1 a1 b1 g1 k2 a2 b2 g2 la ep n) ?_
  simp only [TreeQ.holds, rf_eq, un4_of, decide_true, Bool.and_self, Bool.and_true, Bool.true_and, true_and, Nat.zero_add, decide_eq_true_eq, decide_eq_false_iff_not, Bool.and_eq_true]
  refine ⟨fun h1 => ⟨⟨hn0, h1⟩, by omega, _, rfl, rfl, fin h1 _ ?_⟩, fun h1 => ⟨hok (by omega), fun _ _ => ⟨_, rfl, rfl, rfl⟩⟩⟩
  simp only [Pl.inB, Pl.boxI, Pl.stI, Pl.colI, Pl.qs, lsB, opsB_set, List.length_set, slV]
  rfl
theorem put_told0100 (hE : Plain E) : ToldsOK Try.prog E ra base 3 (ptT ⟨false, true, false, false⟩) :=
  sumT_ok noT_ok rfl (toldR_ok (c := codeOf 15 pPt) (by kernel_rfl) fun x hx => put_loop0100 hE (normB_iff.1 (by simp only [ptD, okPt, Bool.and_eq_true] at hx; exact hx.1)) hx)
theorem put0100 (hE : Plain E) (x : PuX) (hx : (puD ⟨false, true, false, false⟩).pre x = true) : Gives Try.prog E ra base 3 15 ((puD ⟨false, true, false, false⟩).args x) (hp 0 ((puD ⟨false, true, false, false⟩).blks x)) fun v h' => v = (puD ⟨false, true, false, false⟩).out x ∧ h' = hp 0 ((puD ⟨false, true, false, false⟩).blks' x) := by
  obtain ⟨⟨pre, o1, q1, ⟨k2, a2, b2, g2⟩, q2, la, ep⟩, n⟩ := x
  obtain ⟨k1, a1, b1, g1⟩ := o1
  have hx' := hx
  simp only [puD, Bool.and_eq_true, decide_eq_true_eq] at hx'
  obtain ⟨hN, hl, hn0, hn1⟩ := hx'
  have hN' := hN
  obtain ⟨hN1, hN2, hN3, hN4⟩ := normB_iff.1 hN
  simp only [Sh.u2, cond_true, cond_false, true_implies, Bool.false_eq_true, Bool.true_eq_false, false_implies] at hN1 hN2 hN3 hN4
  subst hN2
  subst hN3
  cases hN4
  have fin : n < (pre.length : Int) → ∀ st, st = hp 0 ((⟨pre.set n.toNat bad, ⟨k1, a1, b1, g1⟩, [], ⟨0, 0, 0, 0⟩, [], la, ep⟩ : Pl).inB ⟨false, true, false, false⟩) → st = hp 0 ((putP ⟨false, true, false, false⟩ ⟨pre, ⟨k1, a1, b1, g1⟩, [], ⟨0, 0, 0, 0⟩, [], la, ep⟩ n).inB ⟨false, true, false, false⟩) := fun h1 st h2 => by rw [putP_pre h1]; exact h2
  have hok : ((pre.length : Nat) : Int) ≤ n → okPt ⟨false, true, false, false⟩ ⟨⟨pre, ⟨k1, a1, b1, g1⟩, [], ⟨0, 0, 0, 0⟩, [], la, ep⟩, n, (pre.length : Int)⟩ = true := fun h1 => by
    simp only [okPt, Bool.and_eq_true, decide_eq_true_eq]
    exact ⟨hN', hl, (by first | exact trivial | exact rfl), h1, hn1⟩
  refine gives_of_treeQ hE (W_ok noS_ok noL_ok) (put_told0100 hE) (hp_below _) (pf0100 E pre [] [] k1 a1 b1 g1 0 0 0 0 la ep n) ?_
  simp only [TreeQ.holds, rf_eq, un4_of, decide_true, Bool.and_self, Bool.and_true, Bool.true_and, true_and, Nat.zero_add, decide_eq_true_eq, decide_eq_false_iff_not, Bool.and_eq_true]
  refine ⟨fun h1 => ⟨⟨hn0, h1⟩, by omega, _, rfl, rfl, fin h1 _ ?_⟩, fun h1 => ⟨hok (by omega), fun _ _ => ⟨_, rfl, rfl, rfl⟩⟩⟩
  simp only [Pl.inB, Pl.boxI, Pl.stI, Pl.colI, Pl.qs, lsB, opsB_set, List.length_set, slV]
  rfl
theorem put_told0110 (hE : Plain E) : ToldsOK Try.prog E ra base 4 (ptT ⟨false, true, true, false⟩) :=
  sumT_ok noT_ok rfl (toldR_ok (c := codeOf 15 pPt) (by kernel_rfl) fun x hx => put_loop0110 hE (normB_iff.1 (by simp only [ptD, okPt, Bool.and_eq_true] at hx; exact hx.1)) hx)
theorem put0110 (hE : Plain E) (x : PuX) (hx : (puD ⟨false, true, true, false⟩).pre x = true) : Gives Try.prog E ra base 4 15 ((puD ⟨false, true, true, false⟩).args x) (hp 0 ((puD ⟨false, true, true, false⟩).blks x)) fun v h' => v = (puD ⟨false, true, true, false⟩).out x ∧ h' = hp 0 ((puD ⟨false, true, true, false⟩).blks' x) := by
  obtain ⟨⟨pre, o1, q1, ⟨k2, a2, b2, g2⟩, q2, la, ep⟩, n⟩ := x
  obtain ⟨k1, a1, b1, g1⟩ := o1
  have hx' := hx
  simp only [puD, Bool.and_eq_true, decide_eq_true_eq] at hx'
  obtain ⟨hN, hl, hn0, hn1⟩ := hx'
  have hN' := hN
  obtain ⟨hN1, hN2, hN3, hN4⟩ := normB_iff.1 hN
  simp only [Sh.u2, cond_true, cond_false, true_implies, Bool.false_eq_true, Bool.true_eq_false, false_implies] at hN1 hN2 hN3 hN4
  subst hN2
  have fin : n < (pre.length : Int) → ∀ st, st = hp 0 ((⟨pre.set n.toNat bad, ⟨k1, a1, b1, g1⟩, [], ⟨k2, a2, b2, g2⟩, q2, la, ep⟩ : Pl).inB ⟨false, true, true, false⟩) → st = hp 0 ((putP ⟨false, true, true, false⟩ ⟨pre, ⟨k1, a1, b1, g1⟩, [], ⟨k2, a2, b2, g2⟩, q2, la, ep⟩ n).inB ⟨false, true, true, false⟩) := fun h1 st h2 => by rw [putP_pre h1]; exact h2
  have hok : ((pre.length : Nat) : Int) ≤ n → okPt ⟨false, true, true, false⟩ ⟨⟨pre, ⟨k1, a1, b1, g1⟩, [], ⟨k2, a2, b2, g2⟩, q2, la, ep⟩, n, (pre.length : Int)⟩ = true := fun h1 => by
    simp only [okPt, Bool.and_eq_true, decide_eq_true_eq]
    exact ⟨hN', hl, (by first | exact trivial | exact rfl), h1, hn1⟩
  refine gives_of_treeQ hE (W_ok noS_ok noL_ok) (put_told0110 hE) (hp_below _) (pf0110 E pre [] q2 k1 a1 b1 g1 k2 a2 b2 g2 la ep n) ?_
  simp only [TreeQ.holds, rf_eq, un4_of, decide_true, Bool.and_self, Bool.and_true, Bool.true_and, true_and, Nat.zero_add, decide_eq_true_eq, decide_eq_false_iff_not, Bool.and_eq_true]
  refine ⟨fun h1 => ⟨⟨hn0, h1⟩, by omega, _, rfl, rfl, fin h1 _ ?_⟩, fun h1 => ⟨hok (by omega), fun _ _ => ⟨_, rfl, rfl, rfl⟩⟩⟩
  simp only [Pl.inB, Pl.boxI, Pl.stI, Pl.colI, Pl.qs, lsB, opsB_set, List.length_set, slV]
  rfl
theorem put_told0111 (hE : Plain E) : ToldsOK Try.prog E ra base 3 (ptT ⟨false, true, true, true⟩) :=
  sumT_ok noT_ok rfl (toldR_ok (c := codeOf 15 pPt) (by kernel_rfl) fun x hx => put_loop0111 hE (normB_iff.1 (by simp only [ptD, okPt, Bool.and_eq_true] at hx; exact hx.1)) hx)
theorem put0111 (hE : Plain E) (x : PuX) (hx : (puD ⟨false, true, true, true⟩).pre x = true) : Gives Try.prog E ra base 3 15 ((puD ⟨false, true, true, true⟩).args x) (hp 0 ((puD ⟨false, true, true, true⟩).blks x)) fun v h' => v = (puD ⟨false, true, true, true⟩).out x ∧ h' = hp 0 ((puD ⟨false, true, true, true⟩).blks' x) := by
  obtain ⟨⟨pre, o1, q1, ⟨k2, a2, b2, g2⟩, q2, la, ep⟩, n⟩ := x
  obtain ⟨k1, a1, b1, g1⟩ := o1
  have hx' := hx
  simp only [puD, Bool.and_eq_true, decide_eq_true_eq] at hx'
  obtain ⟨hN, hl, hn0, hn1⟩ := hx'
  have hN' := hN
  obtain ⟨hN1, hN2, hN3, hN4⟩ := normB_iff.1 hN
  simp only [Sh.u2, cond_true, cond_false, true_implies, Bool.false_eq_true, Bool.true_eq_false, false_implies] at hN1 hN2 hN3 hN4
  subst hN2
  subst hN3
  have fin : n < (pre.length : Int) → ∀ st, st = hp 0 ((⟨pre.set n.toNat bad, ⟨k1, a1, b1, g1⟩, [], ⟨k2, a2, b2, g2⟩, [], la, ep⟩ : Pl).inB ⟨false, true, true, true⟩) → st = hp 0 ((putP ⟨false, true, true, true⟩ ⟨pre, ⟨k1, a1, b1, g1⟩, [], ⟨k2, a2, b2, g2⟩, [], la, ep⟩ n).inB ⟨false, true, true, true⟩) := fun h1 st h2 => by rw [putP_pre h1]; exact h2
  have hok : ((pre.length : Nat) : Int) ≤ n → okPt ⟨false, true, true, true⟩ ⟨⟨pre, ⟨k1, a1, b1, g1⟩, [], ⟨k2, a2, b2, g2⟩, [], la, ep⟩, n, (pre.length : Int)⟩ = true := fun h1 => by
    simp only [okPt, Bool.and_eq_true, decide_eq_true_eq]
    exact ⟨hN', hl, (by first | exact trivial | exact rfl), h1, hn1⟩
  refine gives_of_treeQ hE (W_ok noS_ok noL_ok) (put_told0111 hE) (hp_below _) (pf0111 E pre [] [] k1 a1 b1 g1 k2 a2 b2 g2 la ep n) ?_
  simp only [TreeQ.holds, rf_eq, un4_of, decide_true, Bool.and_self, Bool.and_true, Bool.true_and, true_and, Nat.zero_add, decide_eq_true_eq, decide_eq_false_iff_not, Bool.and_eq_true]
  refine ⟨fun h1 => ⟨⟨hn0, h1⟩, by omega, _, rfl, rfl, fin h1 _ ?_⟩, fun h1 => ⟨hok (by omega), fun _ _ => ⟨_, rfl, rfl, rfl⟩⟩⟩
  simp only [Pl.inB, Pl.boxI, Pl.stI, Pl.colI, Pl.qs, lsB, opsB_set, List.length_set, slV]
  rfl
theorem put_told1000 (hE : Plain E) : ToldsOK Try.prog E ra base 3 (ptT ⟨true, false, false, false⟩) :=
  sumT_ok noT_ok rfl (toldR_ok (c := codeOf 15 pPt) (by kernel_rfl) fun x hx => put_loop1000 hE (normB_iff.1 (by simp only [ptD, okPt, Bool.and_eq_true] at hx; exact hx.1)) hx)
theorem put1000 (hE : Plain E) (x : PuX) (hx : (puD ⟨true, false, false, false⟩).pre x = true) : Gives Try.prog E ra base 3 15 ((puD ⟨true, false, false, false⟩).args x) (hp 0 ((puD ⟨true, false, false, false⟩).blks x)) fun v h' => v = (puD ⟨true, false, false, false⟩).out x ∧ h' = hp 0 ((puD ⟨true, false, false, false⟩).blks' x) := by
  obtain ⟨⟨pre, o1, q1, ⟨k2, a2, b2, g2⟩, q2, la, ep⟩, n⟩ := x
  obtain ⟨k1, a1, b1, g1⟩ := o1
  have hx' := hx
  simp only [puD, Bool.and_eq_true, decide_eq_true_eq] at hx'
  obtain ⟨hN, hl, hn0, hn1⟩ := hx'
  have hN' := hN
  obtain ⟨hN1, hN2, hN3, hN4⟩ := normB_iff.1 hN
  simp only [Sh.u2, cond_true, cond_false, true_implies, Bool.false_eq_true, Bool.true_eq_false, false_implies] at hN1 hN2 hN3 hN4
  subst hN1
  subst hN3
  cases hN4
  have hok : ((([] : List O4).length : Nat) : Int) ≤ n → okPt ⟨true, false, false, false⟩ ⟨⟨[], ⟨k1, a1, b1, g1⟩, q1, ⟨0, 0, 0, 0⟩, [], la, ep⟩, n, 0⟩ = true := fun h1 => by
    simp only [okPt, Bool.and_eq_true, decide_eq_true_eq]
    exact ⟨hN', hl, (by first | exact trivial | exact rfl), h1, hn1⟩
  refine gives_of_treeQ hE (W_ok noS_ok noL_ok) (put_told1000 hE) (hp_below _) (pf1000 E [] q1 [] k1 a1 b1 g1 0 0 0 0 la ep n) ?_
  simp only [TreeQ.holds, rf_eq, un4_of, decide_true, Bool.and_self, Bool.and_true, Bool.true_and, true_and, Nat.zero_add, decide_eq_true_eq, decide_eq_false_iff_not, Bool.and_eq_true]
  refine ⟨fun h1 => by omega, fun h1 => ⟨hok (by simp only [List.length_nil]; omega), fun _ _ => ⟨_, rfl, rfl, rfl⟩⟩⟩
theorem put_told1010 (hE : Plain E) : ToldsOK Try.prog E ra base 4 (ptT ⟨true, false, true, false⟩) :=
  sumT_ok noT_ok rfl (toldR_ok (c := codeOf 15 pPt) (by kernel_rfl) fun x hx => put_loop1010 hE (normB_iff.1 (by simp only [ptD, okPt, Bool.and_eq_true] at hx; exact hx.1)) hx)
theorem put1010 (hE : Plain E) (x : PuX) (hx : (puD ⟨true, false, true, false⟩).pre x = true) : Gives Try.prog E ra base 4 15 ((puD ⟨true, false, true, false⟩).args x) (hp 0 ((puD ⟨true, false, true, false⟩).blks x)) fun v h' => v = (puD ⟨true, false, true, false⟩).out x ∧ h' = hp 0 ((puD ⟨true, false, true, false⟩).blks' x) := by
  obtain ⟨⟨pre, o1, q1, ⟨k2, a2, b2, g2⟩, q2, la, ep⟩, n⟩ := x
  obtain ⟨k1, a1, b1, g1⟩ := o1
  have hx' := hx
  simp only [puD, Bool.and_eq_true, decide_eq_true_eq] at hx'
  obtain ⟨hN, hl, hn0, hn1⟩ := hx'
  have hN' := hN
  obtain ⟨hN1, hN2, hN3, hN4⟩ := normB_iff.1 hN
  simp only [Sh.u2, cond_true, cond_false, true_implies, Bool.false_eq_true, Bool.true_eq_false, false_implies] at hN1 hN2 hN3 hN4
  subst hN1
  have hok : ((([] : List O4).length : Nat) : Int) ≤ n → okPt ⟨true, false, true, false⟩ ⟨⟨[], ⟨k1, a1, b1, g1⟩, q1, ⟨k2, a2, b2, g2⟩, q2, la, ep⟩, n, 0⟩ = true := fun h1 => by
    simp only [okPt, Bool.and_eq_true, decide_eq_true_eq]
    exact ⟨hN', hl, (by first | exact trivial | exact rfl), h1, hn1⟩
  refine gives_of_treeQ hE (W_ok noS_ok noL_ok) (put_told1010 hE) (hp_below _) (pf1010 E [] q1 q2 k1 a1 b1 g1 k2 a2 b2 g2 la ep n) ?_
  simp only [TreeQ.holds, rf_eq, un4_of, decide_true, Bool.and_self, Bool.and_true, Bool.true_and, true_and, Nat.zero_add, decide_eq_true_eq, decide_eq_false_iff_not, Bool.and_eq_true]
  refine ⟨fun h1 => by omega, fun h1 => ⟨hok (by simp only [List.length_nil]; omega), fun _ _ => ⟨_, rfl, rfl, rfl⟩⟩⟩
theorem put_told1011 (hE : Plain E) : ToldsOK Try.prog E ra base 3 (ptT ⟨true, false, true, true⟩) :=
  sumT_ok noT_ok rfl (toldR_ok (c := codeOf 15 pPt) (by kernel_rfl) fun x hx => put_loop1011 hE (normB_iff.1 (by simp only [ptD, okPt, Bool.and_eq_true] at hx; exact hx.1)) hx)
theorem put1011 (hE : Plain E) (x : PuX) (hx : (puD ⟨true, false, true, true⟩).pre x = true) : Gives Try.prog E ra base 3 15 ((puD ⟨true, false, true, true⟩).args x) (hp 0 ((puD ⟨true, false, true, true⟩).blks x)) fun v h' => v = (puD ⟨true, false, true, true⟩).out x ∧ h' = hp 0 ((puD ⟨true, false, true, true⟩).blks' x) := by
  obtain ⟨⟨pre, o1, q1, ⟨k2, a2, b2, g2⟩, q2, la, ep⟩, n⟩ := x
  obtain ⟨k1, a1, b1, g1⟩ := o1
  have hx' := hx
  simp only [puD, Bool.and_eq_true, decide_eq_true_eq] at hx'
  obtain ⟨hN, hl, hn0, hn1⟩ := hx'
  have hN' := hN
  obtain ⟨hN1, hN2, hN3, hN4⟩ := normB_iff.1 hN
  simp only [Sh.u2, cond_true, cond_false, true_implies, Bool.false_eq_true, Bool.true_eq_false, false_implies] at hN1 hN2 hN3 hN4
  subst hN1
  subst hN3
  have hok : ((([] : List O4).length : Nat) : Int) ≤ n → okPt ⟨true, false, true, true⟩ ⟨⟨[], ⟨k1, a1, b1, g1⟩, q1, ⟨k2, a2, b2, g2⟩, [], la, ep⟩, n, 0⟩ = true := fun h1 => by
    simp only [okPt, Bool.and_eq_true, decide_eq_true_eq]
    exact ⟨hN', hl, (by first | exact trivial | exact rfl), h1, hn1⟩
  refine gives_of_treeQ hE (W_ok noS_ok noL_ok) (put_told1011 hE) (hp_below _) (pf1011 E [] q1 [] k1 a1 b1 g1 k2 a2 b2 g2 la ep n) ?_
  simp only [TreeQ.holds, rf_eq, un4_of, decide_true, Bool.and_self, Bool.and_true, Bool.true_and, true_and, Nat.zero_add, decide_eq_true_eq, decide_eq_false_iff_not, Bool.and_eq_true]
  refine ⟨fun h1 => by omega, fun h1 => ⟨hok (by simp only [List.length_nil]; omega), fun _ _ => ⟨_, rfl, rfl, rfl⟩⟩⟩
theorem put_told1100 (hE : Plain E) : ToldsOK Try.prog E ra base 2 (ptT ⟨true, true, false, false⟩) :=
  sumT_ok noT_ok rfl (toldR_ok (c := codeOf 15 pPt) (by kernel_rfl) fun x hx => put_loop1100 hE (normB_iff.1 (by simp only [ptD, okPt, Bool.and_eq_true] at hx; exact hx.1)) hx)
theorem put1100 (hE : Plain E) (x : PuX) (hx : (puD ⟨true, true, false, false⟩).pre x = true) : Gives Try.prog E ra base 2 15 ((puD ⟨true, true, false, false⟩).args x) (hp 0 ((puD ⟨true, true, false, false⟩).blks x)) fun v h' => v = (puD ⟨true, true, false, false⟩).out x ∧ h' = hp 0 ((puD ⟨true, true, false, false⟩).blks' x) := by
  obtain ⟨⟨pre, o1, q1, ⟨k2, a2, b2, g2⟩, q2, la, ep⟩, n⟩ := x
  obtain ⟨k1, a1, b1, g1⟩ := o1
  have hx' := hx
  simp only [puD, Bool.and_eq_true, decide_eq_true_eq] at hx'
  obtain ⟨hN, hl, hn0, hn1⟩ := hx'
  have hN' := hN
  obtain ⟨hN1, hN2, hN3, hN4⟩ := normB_iff.1 hN
  simp only [Sh.u2, cond_true, cond_false, true_implies, Bool.false_eq_true, Bool.true_eq_false, false_implies] at hN1 hN2 hN3 hN4
  subst hN1
  subst hN2
  subst hN3
  cases hN4
  have hok : ((([] : List O4).length : Nat) : Int) ≤ n → okPt ⟨true, true, false, false⟩ ⟨⟨[], ⟨k1, a1, b1, g1⟩, [], ⟨0, 0, 0, 0⟩, [], la, ep⟩, n, 0⟩ = true := fun h1 => by
    simp only [okPt, Bool.and_eq_true, decide_eq_true_eq]
    exact ⟨hN', hl, (by first | exact trivial | exact rfl), h1, hn1⟩
  refine gives_of_treeQ hE (W_ok noS_ok noL_ok) (put_told1100 hE) (hp_below _) (pf1100 E [] [] [] k1 a1 b1 g1 0 0 0 0 la ep n) ?_
  simp only [TreeQ.holds, rf_eq, un4_of, decide_true, Bool.and_self, Bool.and_true, Bool.true_and, true_and, Nat.zero_add, decide_eq_true_eq, decide_eq_false_iff_not, Bool.and_eq_true]
  refine ⟨fun h1 => by omega, fun h1 => ⟨hok (by simp only [List.length_nil]; omega), fun _ _ => ⟨_, rfl, rfl, rfl⟩⟩⟩
theorem put_told1110 (hE : Plain E) : ToldsOK Try.prog E ra base 3 (ptT ⟨true, true, true, false⟩) :=
  sumT_ok noT_ok rfl (toldR_ok (c := codeOf 15 pPt) (by kernel_rfl) fun x hx => put_loop1110 hE (normB_iff.1 (by simp only [ptD, okPt, Bool.and_eq_true] at hx; exact hx.1)) hx)
theorem put1110 (hE : Plain E) (x : PuX) (hx : (puD ⟨true, true, true, false⟩).pre x = true) : Gives Try.prog E ra base 3 15 ((puD ⟨true, true, true, false⟩).args x) (hp 0 ((puD ⟨true, true, true, false⟩).blks x)) fun v h' => v = (puD ⟨true, true, true, false⟩).out x ∧ h' = hp 0 ((puD ⟨true, true, true, false⟩).blks' x) := by
  obtain ⟨⟨pre, o1, q1, ⟨k2, a2, b2, g2⟩, q2, la, ep⟩, n⟩ := x
  obtain ⟨k1, a1, b1, g1⟩ := o1
  have hx' := hx
  simp only [puD, Bool.and_eq_true, decide_eq_true_eq] at hx'
  obtain ⟨hN, hl, hn0, hn1⟩ := hx'
  have hN' := hN
  obtain ⟨hN1, hN2, hN3, hN4⟩ := normB_iff.1 hN
  simp only [Sh.u2, cond_true, cond_false, true_implies, Bool.false_eq_true, Bool.true_eq_false, false_implies] at hN1 hN2 hN3 hN4
  subst hN1
  subst hN2
  have hok : ((([] : List O4).length : Nat) : Int) ≤ n → okPt ⟨true, true, true, false⟩ ⟨⟨[], ⟨k1, a1, b1, g1⟩, [], ⟨k2, a2, b2, g2⟩, q2, la, ep⟩, n, 0⟩ = true := fun h1 => by
    simp only [okPt, Bool.and_eq_true, decide_eq_true_eq]
    exact ⟨hN', hl, (by first | exact trivial | exact rfl), h1, hn1⟩
  refine gives_of_treeQ hE (W_ok noS_ok noL_ok) (put_told1110 hE) (hp_below _) (pf1110 E [] [] q2 k1 a1 b1 g1 k2 a2 b2 g2 la ep n) ?_
  simp only [TreeQ.holds, rf_eq, un4_of, decide_true, Bool.and_self, Bool.and_true, Bool.true_and, true_and, Nat.zero_add, decide_eq_true_eq, decide_eq_false_iff_not, Bool.and_eq_true]
  refine ⟨fun h1 => by omega, fun h1 => ⟨hok (by simp only [List.length_nil]; omega), fun _ _ => ⟨_, rfl, rfl, rfl⟩⟩⟩
theorem put_told1111 (hE : Plain E) : ToldsOK Try.prog E ra base 2 (ptT ⟨true, true, true, true⟩) :=
  sumT_ok noT_ok rfl (toldR_ok (c := codeOf 15 pPt) (by kernel_rfl) fun x hx => put_loop1111 hE (normB_iff.1 (by simp only [ptD, okPt, Bool.and_eq_true] at hx; exact hx.1)) hx)
theorem put1111 (hE : Plain E) (x : PuX) (hx : (puD ⟨true, true, true, true⟩).pre x = true) : Gives Try.prog E ra base 2 15 ((puD ⟨true, true, true, true⟩).args x) (hp 0 ((puD ⟨true, true, true, true⟩).blks x)) fun v h' => v = (puD ⟨true, true, true, true⟩).out x ∧ h' = hp 0 ((puD ⟨true, true, true, true⟩).blks' x) := by
  obtain ⟨⟨pre, o1, q1, ⟨k2, a2, b2, g2⟩, q2, la, ep⟩, n⟩ := x
  obtain ⟨k1, a1, b1, g1⟩ := o1
  have hx' := hx
  simp only [puD, Bool.and_eq_true, decide_eq_true_eq] at hx'
  obtain ⟨hN, hl, hn0, hn1⟩ := hx'
  have hN' := hN
  obtain ⟨hN1, hN2, hN3, hN4⟩ := normB_iff.1 hN
  simp only [Sh.u2, cond_true, cond_false, true_implies, Bool.false_eq_true, Bool.true_eq_false, false_implies] at hN1 hN2 hN3 hN4
  subst hN1
  subst hN2
  subst hN3
  have hok : ((([] : List O4).length : Nat) : Int) ≤ n → okPt ⟨true, true, true, true⟩ ⟨⟨[], ⟨k1, a1, b1, g1⟩, [], ⟨k2, a2, b2, g2⟩, [], la, ep⟩, n, 0⟩ = true := fun h1 => by
    simp only [okPt, Bool.and_eq_true, decide_eq_true_eq]
    exact ⟨hN', hl, (by first | exact trivial | exact rfl), h1, hn1⟩
  refine gives_of_treeQ hE (W_ok noS_ok noL_ok) (put_told1111 hE) (hp_below _) (pf1111 E [] [] [] k1 a1 b1 g1 k2 a2 b2 g2 la ep n) ?_
  simp only [TreeQ.holds, rf_eq, un4_of, decide_true, Bool.and_self, Bool.and_true, Bool.true_and, true_and, Nat.zero_add, decide_eq_true_eq, decide_eq_false_iff_not, Bool.and_eq_true]
  refine ⟨fun h1 => by omega, fun h1 => ⟨hok (by simp only [List.length_nil]; omega), fun _ _ => ⟨_, rfl, rfl, rfl⟩⟩⟩
end
end Go.Proofs.Ytompijagcjjamaa

namespace Go.Proofs.Ytompijagcjjamaa
open Ab
section
variable {E : Nat → Nat → Seg} {ra : Nat → Nat → Nat × Nat} {base : Nat} {h : Sh}
theorem unL_eq (l : List O4) : unL l = l := un4_of l
theorem un_eq (y : Pl) : y.un = y := by simp only [Pl.un, unL_eq]
theorem sameO_self (l : List O4) : (sameBl [opsB l] [opsB l] && true) = true := by simp [opsB, sameBl, sameB, sameSs, sameCs, sameC]
theorem sameW_self (n : Nat) : (sameL [slV false 0 n, .fn 29 []] [slV false 0 n, .fn 29 []] && true) = true := by simp [slV, sameL, sameV, sameA, sameCap]
theorem cpN_holds {nil : Bool} {l : List O4} {t : Tree State} {Q : State → Prop} (h1 : nil = false → 1 ≤ l.length) (h2 : l.length ≤ 4) (ht : t.holds Q) : (cpN nil l t).holds Q := by
  cases nil
  · refine ⟨?_, ?_, ?_, ht⟩
    · rw [unL_eq]; exact sameO_self l
    · rw [unL_eq]; exact sameW_self _
    · have h1 := h1 rfl
      rw [unL_eq, decide_eq_true h1, decide_eq_true (by omega)]; rfl
  · exact ht
theorem copy_ok (hE : Plain E) (y : Pl) (hx : fullB h y = true) : Gives Try.prog E ra base h.n 14 ((cpD h).args y) (hp 0 ((cpD h).blks y)) fun v h' => v = (cpD h).out y ∧ h' = hp 0 ((cpD h).blks' y) := by
  simp only [fullB, lens4, Bool.and_eq_true, Bool.or_eq_true, decide_eq_true_eq] at hx
  obtain ⟨_, ⟨l1, l2, l3⟩, m1, m2, m3⟩ := hx
  refine (gives_of_tree hE (W_ok (SW_ok hE) noL_ok) (SW_ok hE) (hp_below _) (cp_tree h E y) ?_).2
  rw [un_eq]
  refine cpN_holds (fun he => m1.resolve_left (by simp [he])) l1 (cpN_holds (fun he => m2.resolve_left (by simp [he])) l2 (cpN_holds (fun he => m3.resolve_left ?_) l3 ⟨_, rfl, rfl, rfl⟩))
  intro hu
  obtain ⟨e, f, t, u⟩ := h
  cases t
  · cases he
  · cases u
    · cases hu
    · cases he
end
end Go.Proofs.Ytompijagcjjamaa

namespace Go.Proofs.Ytompijagcjjamaa
open Ab
def ckFind : List Nd → Int → Ce
  | [], _ => ⟨-1, 0⟩
  | a :: L, n => match decide (ndErr a = 0) with
    | true => ckFind L (n + 1)
    | false => ⟨n, ndErr a⟩
def ckRes (h : Sh) (y : Pl) : Ce := ckFind (nodesT (y.T h)) 0
def sgAt : List Nd → Int → Int
  | [], _ => -1
  | a :: L, c => match decide (c = 0) with
    | true => a.s
    | false => sgAt L (c - 1)
def sgN (h : Sh) (y : Pl) (c : Int) : Int := sgAt (nodesT (y.T h)) c
def prL (h : Sh) (y : Pl) : List Int := thAll (y.T h) .pr
def poN (h : Sh) (y : Pl) (z : Int) : List Int := thAll (y.T h) (.po z)
def ofN (h : Sh) (y : Pl) (z : Int) : Int := (thAll (y.T h) (.st z)).getD 0 0
def ofOk (h : Sh) (y : Pl) (z : Int) : Bool := !isNil (thAll (y.T h) (.st z))
structure Pz where
  y : Pl
  z : Int
def numsOk (y : Pl) : Bool := decide (0 ≤ y.la) && (decide (y.la ≤ 1073741824) && (decide (1 ≤ y.ep) && decide (y.ep ≤ 1073741824)))
def soundB (h : Sh) (y : Pl) : Bool := normB h y && lens4 y
def chD (h : Sh) : CDeal Pl := ⟨fun y => [y.v h], fun y => y.blks h, fun y => soundB h y && numsOk y, fun y => .tup [.int .i64 (ckRes h y).n, .int .i64 (ckRes h y).e], fun y => y.blks h⟩
def prD (h : Sh) : CDeal Pl := ⟨fun y => [y.v h], fun y => y.blks h, fun y => fullB h y, fun y => match h.e with
  | true => .nils
  | false => .slice (.own h.n 0 0 1) (prL h y).length none, fun y => y.blks h ++ match h.e with
  | true => []
  | false => [intsB (prL h y)]⟩
def ofD (h : Sh) : CDeal Pz := ⟨fun x => [x.y.v h, .int .i64 x.z], fun x => x.y.blks h, fun x => soundB h x.y && ofOk h x.y x.z, fun x => .int .i64 (ofN h x.y x.z), fun x => x.y.blks h⟩
def stgD (h : Sh) : CDeal Pz := ⟨fun x => [x.y.v h, .int .i64 x.z], fun x => x.y.blks h, fun x => soundB h x.y && okI 1000 x.z, fun x => .int .i64 (sgN h x.y x.z), fun x => x.y.blks h⟩
def poCN (h : Sh) : CDeal Pz := ⟨fun x => [x.y.v h, .int .i64 x.z], fun x => x.y.blks h, fun x => soundB h x.y && isNil (poN h x.y x.z), fun _ => .nils, fun x => x.y.blks h⟩
def poCO (h : Sh) : CDeal Pz := ⟨fun x => [x.y.v h, .int .i64 x.z], fun x => x.y.blks h, fun x => soundB h x.y && !isNil (poN h x.y x.z), fun x => .slice (.own h.n 0 0 1) (poN h x.y x.z).length none, fun x => x.y.blks h ++ [intsB (poN h x.y x.z)]⟩
end Go.Proofs.Ytompijagcjjamaa

namespace Go.Proofs.Ytompijagcjjamaa
open Ab
theorem sound_ok {h : Sh} {y : Pl} (hs : soundB h y = true) : y.Ok h := by
  simp only [soundB, lens4, Bool.and_eq_true, decide_eq_true_eq] at hs
  obtain ⟨hn, l1, l2, l3⟩ := hs
  obtain ⟨n1, n2, n3, n4⟩ := normB_iff.1 hn
  exact ⟨n1, n2, fun ht hu => n3 (by obtain ⟨e, f, t, u⟩ := h; cases ht; exact hu), l1, l2, l3⟩
theorem ckE_inj {w : Pw} {a b : Ce} (h : ckE w a = ckE w b) : a = b := by
  obtain ⟨n, e⟩ := a
  obtain ⟨n', e'⟩ := b
  simp only [ckE, numB, List.cons.injEq, Blk.segs.injEq, Seg.mk.injEq, Col.int.injEq, true_and, and_true] at h
  rw [h.1, h.2.1]
theorem sgE_inj {w : Pw} {a b : Int} (h : sgE w a = sgE w b) : a = b := by
  simp only [sgE, numB, List.cons.injEq, Blk.segs.injEq, Seg.mk.injEq, Col.int.injEq, true_and, and_true] at h
  exact h
theorem ck_find {w : Pw} : ∀ (L : List Nd) (n : Int), (∃ s', runS (ckStep w) L n = .on s' ∧ ckFind L n = ⟨-1, 0⟩) ∨ runS (ckStep w) L n = .off (ckE w (ckFind L n))
  | [], n => .inl ⟨n, rfl, rfl⟩
  | a :: L, n => by
    by_cases ha : ndErr a = 0
    · simp only [runS, ck_on ha, ckFind, decide_eq_true ha]
      exact ck_find L (n + 1)
    · simp only [runS, ck_off rfl ha, ckFind, decide_eq_false ha]
      exact .inr trivial
theorem sg_find {w : Pw} : ∀ (L : List Nd) (c : Int), 0 ≤ c → (∃ s', runS (sgStep w) L c = .on s' ∧ sgAt L c = -1) ∨ runS (sgStep w) L c = .off (sgE w (sgAt L c))
  | [], c, _ => .inl ⟨c, rfl, rfl⟩
  | a :: L, c, hc => by
    by_cases h0 : c = 0
    · subst h0
      exact .inr rfl
    · simp only [runS, sg_on h0, sgAt, decide_eq_false h0]
      exact sg_find L (c - 1) (by omega)
section
variable {E : Nat → Nat → Seg} {ra : Nat → Nat → Nat × Nat} {base : Nat}
theorem ch_own {h : Sh} (y : Pl) (hx : (chD h).pre y = true) (kk : Nat) : Gives Try.prog E ra base kk 7 ((chD h).args y) (hp 0 ((chD h).blks y)) fun v h' => v = (chD h).out y ∧ h' = hp 0 ((chD h).blks' y) := by
  simp only [chD, numsOk, Bool.and_eq_true, decide_eq_true_eq] at hx
  obtain ⟨hs, n1, n2, n3, n4⟩ := hx
  refine plain_own (sound_ok hs) (l := []) (by simp) (.tup (by simp [bare])) fun ra2 base2 => ?_
  refine (check2_gives (Pl.T_ok (sound_ok hs)) Pl.T_ne Pl.w_ok ⟨n1, n2⟩ ⟨n3, n4⟩).mono fun v h' hh => ?_
  obtain ⟨h1, h2⟩ := hh
  refine ⟨?_, h1⟩
  rcases ck_find (w := y.w h) (nodesT (y.T h)) 0 with ⟨s, e1, e2⟩ | e1
  · rcases h2 with ⟨s', e3, rfl⟩ | ⟨e, e3, rfl⟩
    · show _ = AVal.tup [.int .i64 (ckFind _ 0).n, .int .i64 (ckFind _ 0).e]
      rw [e2]
    · rw [e1] at e3; cases e3
  · rcases h2 with ⟨s', e3, rfl⟩ | ⟨e, e3, rfl⟩
    · rw [e1] at e3; cases e3
    · rw [e1, Res.off.injEq] at e3
      rw [← ckE_inj e3]; rfl
theorem cs_opsB (l : List O4) : (Cs.of l).blk = opsB l := by
  show Blk.segs [⟨(k4 l).length, 4, _⟩] = _
  rw [k4_length]; rfl
theorem stg_own {h : Sh} (x : Pz) (hx : (stgD h).pre x = true) (kk : Nat) : Gives Try.prog E ra base kk 11 ((stgD h).args x) (hp 0 ((stgD h).blks x)) fun v h' => v = (stgD h).out x ∧ h' = hp 0 ((stgD h).blks' x) := by
  obtain ⟨y, z⟩ := x
  simp only [stgD, Bool.and_eq_true, okI_iff] at hx
  obtain ⟨hs, hz⟩ := hx
  refine plain_own (sound_ok hs) (l := [.int .i64 z]) (by simp [bare]) (.bare rfl) fun ra2 base2 => ?_
  refine (stage_gives (Pl.T_ok (sound_ok hs)) Pl.w_ok hz).mono fun v h' hh => ?_
  rcases sg_find (w := y.w h) (nodesT (y.T h)) z hz.1 with ⟨s, e1, e2⟩ | e1
  · rcases hh with ⟨s', e3, rfl, h1⟩ | ⟨e, e3, rfl, h1⟩
    · refine ⟨?_, h1⟩
      show _ = AVal.int .i64 (sgAt _ z)
      rw [e2]
    · rw [e1] at e3; cases e3
  · rcases hh with ⟨s', e3, rfl, h1⟩ | ⟨e, e3, rfl, h1⟩
    · rw [e1] at e3; cases e3
    · rw [e1, Res.off.injEq] at e3
      refine ⟨?_, h1⟩
      rw [← sgE_inj e3]; rfl
theorem of_own {h : Sh} (x : Pz) (hx : (ofD h).pre x = true) (kk : Nat) : Gives Try.prog E ra base kk 10 ((ofD h).args x) (hp 0 ((ofD h).blks x)) fun v h' => v = (ofD h).out x ∧ h' = hp 0 ((ofD h).blks' x) := by
  obtain ⟨y, z⟩ := x
  simp only [ofD, ofOk, Bool.and_eq_true, Bool.not_eq_true'] at hx
  obtain ⟨hs, hz⟩ := hx
  exact plain_own (sound_ok hs) (l := [.int .i64 z]) (by simp [bare]) (.bare rfl) fun ra2 base2 => of_gives (Pl.T_ok (sound_ok hs)) Pl.w_ok z hz
theorem poN_own {h : Sh} (x : Pz) (hx : (poCN h).pre x = true) (kk : Nat) : Gives Try.prog E ra base kk 13 ((poCN h).args x) (hp 0 ((poCN h).blks x)) fun v h' => v = (poCN h).out x ∧ h' = hp 0 ((poCN h).blks' x) := by
  obtain ⟨y, z⟩ := x
  simp only [poCN, Bool.and_eq_true] at hx
  obtain ⟨hs, hz⟩ := hx
  exact plain_own (sound_ok hs) (l := [.int .i64 z]) (by simp [bare]) .nils fun ra2 base2 => (post_gives (Pl.T_ok (sound_ok hs)) Pl.w_ok z).mono fun v h' hh => hh.1 hz
theorem poO_own {h : Sh} (x : Pz) (hx : (poCO h).pre x = true) (kk : Nat) : Gives Try.prog E ra base kk 13 ((poCO h).args x) (hp 0 ((poCO h).blks x)) fun v h' => v = (poCO h).out x ∧ h' = hp 0 ((poCO h).blks' x) := by
  obtain ⟨y, z⟩ := x
  simp only [poCO, Bool.and_eq_true, Bool.not_eq_true'] at hx
  obtain ⟨hs, hz⟩ := hx
  exact ints_own (sound_ok hs) (l := [.int .i64 z]) (by simp [bare]) fun ra2 base2 => (post_gives (Pl.T_ok (sound_ok hs)) Pl.w_ok z).mono fun v h' hh => hh.2 hz
def idxs (r : Rt) : List Nd → Int → List Int
  | [], _ => []
  | a :: L, n => match r.ok a with
    | true => n :: idxs r L (n + 1)
    | false => idxs r L (n + 1)
theorem thG_eq (r : Rt) : ∀ (L : List Nd) (s : Ls), thG r L s = ⟨s.l ++ idxs r L s.n, s.n + L.length⟩
  | [], s => by simp [thG, idxs]
  | a :: L, s => by
    rw [thG, thG_eq r L]
    cases hr : r.ok a <;> simp only [idxs, hr] <;> simp <;> omega
theorem thAll_eq (T : Pt) (r : Rt) : thAll T r = idxs r (nodesT T) 0 := by
  rw [thAll, thG_eq]; rfl
theorem idxs_append (r : Rt) : ∀ (L M : List Nd) (n : Int), idxs r (L ++ M) n = idxs r L n ++ idxs r M (n + L.length)
  | [], M, n => by simp [idxs]
  | a :: L, M, n => by
    have := idxs_append r L M (n + 1)
    have e : n + 1 + (L.length : Int) = n + ((L.length + 1 : Nat) : Int) := by omega
    rw [e] at this
    cases hr : r.ok a <;> simp only [List.cons_append, idxs, hr, this, List.length_cons]
theorem idxs_none (r : Rt) : ∀ (L : List Nd) (n : Int), (∀ a ∈ L, r.ok a = false) → idxs r L n = []
  | [], _, _ => rfl
  | a :: L, n, h => by
    simp only [idxs, h a (by simp)]
    exact idxs_none r L (n + 1) fun b hb => h b (by simp [hb])
theorem itemsAt_mem {s : Int} {a : Nd} : ∀ {l : List O4} {j : Nat}, a ∈ itemsAt s j l → a.s = s ∧ (j : Int) ≤ a.i
  | [], _, h => by cases h
  | x :: l, j, h => by
    rcases List.mem_cons.1 h with rfl | h
    · exact ⟨rfl, Int.le_refl _⟩
    · have := itemsAt_mem h
      exact ⟨this.1, by omega⟩
theorem stItems_mem {po : Nat → List O4} {a : Nd} : ∀ {l : List O4} {p : Nat}, a ∈ stItems po p l → (p : Int) + 1 ≤ a.s
  | [], _, h => by cases h
  | x :: l, p, h => by
    simp only [stItems, List.mem_cons, List.mem_append] at h
    rcases h with rfl | h | h
    · exact Int.le_refl _
    · rw [(itemsAt_mem h).1]; exact Int.le_refl _
    · have := stItems_mem h; omega
theorem prL_nil {h : Sh} {y : Pl} (hf : fullB h y = true) : isNil (prL h y) = h.e := by
  simp only [fullB, Bool.and_eq_true, Bool.or_eq_true, decide_eq_true_eq] at hf
  obtain ⟨hN, _, m1, _⟩ := hf
  obtain ⟨n1, _⟩ := normB_iff.1 hN
  rw [prL, thAll_eq, nodesT, idxs_append]
  have h2 : idxs .pr (stItems (y.T h).po 0 (y.T h).st) (0 + (itemsAt 0 0 (y.T h).pre).length) = [] := idxs_none _ _ _ fun a ha => by
    have := stItems_mem ha
    exact decide_eq_false (by omega)
  rw [h2, List.append_nil]
  show isNil (idxs .pr (itemsAt 0 0 y.pre) 0) = h.e
  cases he : h.e with
  | true => rw [n1 he]; rfl
  | false =>
    rcases m1 with m1 | m1
    · rw [he] at m1; cases m1
    · cases hp : y.pre with
      | nil => rw [hp] at m1; simp at m1
      | cons x l => rfl
theorem full_sound {h : Sh} {y : Pl} (hf : fullB h y = true) : soundB h y = true := by
  simp only [fullB, Bool.and_eq_true] at hf
  simp only [soundB, Bool.and_eq_true]
  exact ⟨hf.1, hf.2.1⟩
theorem pr_own {h : Sh} (y : Pl) (hx : (prD h).pre y = true) (kk : Nat) : Gives Try.prog E ra base kk 9 ((prD h).args y) (hp 0 ((prD h).blks y)) fun v h' => v = (prD h).out y ∧ h' = hp 0 ((prD h).blks' y) := by
  have hx : fullB h y = true := hx
  have hn := prL_nil hx
  have hs := full_sound hx
  simp only [prD]
  cases he : h.e with
  | true =>
    rw [he] at hn
    simp only [List.append_nil]
    exact plain_own (sound_ok hs) (l := []) (by simp) .nils fun ra2 base2 => (pre_gives (Pl.T_ok (sound_ok hs)) Pl.w_ok).mono fun v h' hh => hh.1 hn
  | false =>
    rw [he] at hn
    exact ints_own (sound_ok hs) (l := []) (by simp) fun ra2 base2 => (pre_gives (Pl.T_ok (sound_ok hs)) Pl.w_ok).mono fun v h' hh => hh.2 hn
end
end Go.Proofs.Ytompijagcjjamaa

namespace Go.Proofs.Ytompijagcjjamaa
open Ab
structure Pc where
  pre : Cs
  o1 : O4
  q1 : Cs
  o2 : O4
  q2 : Cs
  la : Int
  ep : Int
def Cs.un (s : Cs) : List O4 := un4 s.k s.a s.b s.g
def Cs.wf (s : Cs) : Bool := decide (s.a.length = s.k.length) && (decide (s.b.length = s.k.length) && decide (s.g.length = s.k.length))
def Pc.pl (y : Pc) : Pl := ⟨y.pre.un, y.o1, y.q1.un, y.o2, y.q2.un, y.la, y.ep⟩
def Pc.of (y : Pl) : Pc := ⟨Cs.of y.pre, y.o1, Cs.of y.q1, y.o2, Cs.of y.q2, y.la, y.ep⟩
def Pc.wf (y : Pc) : Bool := y.pre.wf && (y.q1.wf && y.q2.wf)
def lsC (nil : Bool) (s : Cs) : List Blk := match nil with
  | true => []
  | false => [s.blk]
def Pc.v (h : Sh) (y : Pc) : AVal := .agg [slV h.e 0 y.pre.k.length, stsV h, .int .i64 y.la, .int .i64 y.ep]
def Pc.colI (I : Ids) (h : Sh) (y : Pc) : Col := match h.t with
  | false => match h.f with
    | true => .nilc 1
    | false => .val [slV false I.a y.q1.k.length]
  | true => match h.f with
    | true => match h.u with
      | true => .nilc 2
      | false => .val [.nils, slV false I.b y.q2.k.length]
    | false => .val [slV false I.a y.q1.k.length, slV h.u I.b y.q2.k.length]
def Pc.stI (I : Ids) (h : Sh) (y : Pc) : Blk := match h.t with
  | false => .segs [⟨1, 5, [.int .i64 [y.o1.k], .int .i64 [y.o1.a], .int .i64 [y.o1.b], .int .i64 [y.o1.g], y.colI I h]⟩]
  | true => .segs [⟨2, 5, [.int .i64 [y.o1.k, y.o2.k], .int .i64 [y.o1.a, y.o2.a], .int .i64 [y.o1.b, y.o2.b], .int .i64 [y.o1.g, y.o2.g], y.colI I h]⟩]
def Pc.boxI (I : Ids) (h : Sh) (y : Pc) : Blk := .segs [⟨1, 1, [.val [slV h.e I.p y.pre.k.length]]⟩, ⟨1, 1, [.val [.slice (.own I.s 0 0 5) h.m none]]⟩, ⟨1, 1, [.int .i64 [y.la]]⟩, ⟨1, 1, [.int .i64 [y.ep]]⟩]
def Pc.qs (h : Sh) (y : Pc) : List Blk := lsC h.f y.q1 ++ match h.t with
  | true => lsC h.u y.q2
  | false => []
def plB (h : Sh) (d : Nat) (y : Pc) : List Blk := lsC h.e y.pre ++ (y.stI (h.ids d) h :: y.qs h)
def Pc.vI (I : Ids) (h : Sh) (y : Pc) : AVal := .agg [slV h.e I.p y.pre.k.length, .slice (.own I.s 0 0 5) h.m none, .int .i64 y.la, .int .i64 y.ep]
def takeC (nil : Bool) (Bs : List Blk) : Option (Cs × List Blk) := match nil, Bs with
  | true, R => some (Cs.nil, R)
  | false, .segs [⟨_, _, [.int _ k, .int _ a, .int _ b, .int _ g]⟩] :: R => some (⟨k, a, b, g⟩, R)
  | _, _ => none
def pcFrom (h : Sh) (la ep : Int) (Bs : List Blk) : Option (Pc × List Blk) := match takeC h.e Bs with
  | some (pre, R) => match takeSt h.t R with
    | some (o1, o2, R) => match takeC h.f R with
      | some (q1, R) => match takeC h.u2 R with
        | some (q2, R) => some (⟨pre, o1, q1, o2, q2, la, ep⟩, R)
        | none => none
      | none => none
    | none => none
  | none => none
def pcO (h : Sh) (us : List AVal) (Bs : List Blk) : Option Pc := match us with
  | .agg [_, _, .int _ la, .int _ ep] :: _ => match pcFrom h la ep Bs with
    | some (y, _) => some y
    | none => none
  | _ => none
structure Pcz where
  y : Pc
  z : Int
def pczO (h : Sh) (us : List AVal) (Bs : List Blk) : Option Pcz := match us with
  | [.agg [_, _, .int _ la, .int _ ep], .int _ z] => match pcFrom h la ep Bs with
    | some (y, _) => some ⟨y, z⟩
    | none => none
  | _ => none
def pcBox (h : Sh) (Bs : List Blk) : Option (Pc × List Blk) := match Bs with
  | .segs [_, _, ⟨_, _, [.int _ [la]]⟩, ⟨_, _, [.int _ [ep]]⟩] :: R => pcFrom h la ep R
  | _ => none
def pcuO (h : Sh) (us : List AVal) (Bs : List Blk) : Option Pcz := match us, pcBox h Bs with
  | [_, .int _ n, _], some (y, _) => some ⟨y, n⟩
  | _, _ => none
def wfOk (h : Sh) (y : Pc) : Bool := y.wf && soundB h y.pl
def fullOk (h : Sh) (y : Pc) : Bool := y.wf && fullB h y.pl
def ckOk (h : Sh) (y : Pc) : Bool := y.wf && (chD h).pre y.pl
def ckNc (h : Sh) (y : Pc) : Int := (ckRes h y.pl).n
def ckEc (h : Sh) (y : Pc) : Int := (ckRes h y.pl).e
def ndsC (h : Sh) (y : Pc) : Cs := Cs.of (ndsOf h y.pl)
def prC (h : Sh) (y : Pc) : List Int := prL h y.pl
def poNc (h : Sh) (y : Pc) (z : Int) : List Int := poN h y.pl z
def ofNc (h : Sh) (y : Pc) (z : Int) : Int := ofN h y.pl z
def sgNc (h : Sh) (y : Pc) (z : Int) : Int := sgN h y.pl z
def ofOkc (h : Sh) (x : Pcz) : Bool := x.y.wf && (ofD h).pre ⟨x.y.pl, x.z⟩
def sgOkc (h : Sh) (x : Pcz) : Bool := x.y.wf && (stgD h).pre ⟨x.y.pl, x.z⟩
def poOkN (h : Sh) (x : Pcz) : Bool := x.y.wf && (poCN h).pre ⟨x.y.pl, x.z⟩
def poOkO (h : Sh) (x : Pcz) : Bool := x.y.wf && (poCO h).pre ⟨x.y.pl, x.z⟩
def puOk (h : Sh) (x : Pcz) : Bool := x.y.wf && (puD h).pre ⟨x.y.pl, x.z⟩
def putC (h : Sh) (y : Pc) (n : Int) : Pc := Pc.of (putP h y.pl n)
def chC (h : Sh) : CDeal Pc := ⟨fun y => [y.v h], fun y => plB h 0 y, fun y => ckOk h y, fun y => .tup [.int .i64 (ckNc h y), .int .i64 (ckEc h y)], fun y => plB h 0 y⟩
def nsC (h : Sh) : CDeal Pc := ⟨fun y => [y.v h], fun y => plB h 0 y, fun y => wfOk h y, fun y => .slice (.own h.n 0 0 4) (ndsC h y).k.length none, fun y => plB h 0 y ++ [(ndsC h y).blk]⟩
def prCD (h : Sh) : CDeal Pc := ⟨fun y => [y.v h], fun y => plB h 0 y, fun y => fullOk h y, fun y => match h.e with
  | true => .nils
  | false => .slice (.own h.n 0 0 1) (prC h y).length none, fun y => plB h 0 y ++ match h.e with
  | true => []
  | false => [intsB (prC h y)]⟩
def ofC (h : Sh) : CDeal Pcz := ⟨fun x => [x.y.v h, .int .i64 x.z], fun x => plB h 0 x.y, fun x => ofOkc h x, fun x => .int .i64 (ofNc h x.y x.z), fun x => plB h 0 x.y⟩
def sgCD (h : Sh) : CDeal Pcz := ⟨fun x => [x.y.v h, .int .i64 x.z], fun x => plB h 0 x.y, fun x => sgOkc h x, fun x => .int .i64 (sgNc h x.y x.z), fun x => plB h 0 x.y⟩
def poCNc (h : Sh) : CDeal Pcz := ⟨fun x => [x.y.v h, .int .i64 x.z], fun x => plB h 0 x.y, fun x => poOkN h x, fun _ => .nils, fun x => plB h 0 x.y⟩
def poCOc (h : Sh) : CDeal Pcz := ⟨fun x => [x.y.v h, .int .i64 x.z], fun x => plB h 0 x.y, fun x => poOkO h x, fun x => .slice (.own h.n 0 0 1) (poNc h x.y x.z).length none, fun x => plB h 0 x.y ++ [intsB (poNc h x.y x.z)]⟩
def cpC (h : Sh) : CDeal Pc := ⟨fun y => [y.v h], fun y => plB h 0 y, fun y => fullOk h y, fun y => y.vI (h.idc h.n) h, fun y => plB h 0 y ++ (lsC h.e y.pre ++ (y.qs h ++ [y.stI (h.idc h.n) h]))⟩
def puC (h : Sh) : CDeal Pcz := ⟨fun x => [.ptr (.own 0 0 0 0), .int .i64 x.z, badV], fun x => x.y.boxI (h.ids 1) h :: plB h 1 x.y, fun x => puOk h x, fun _ => .undef, fun x => (putC h x.y x.z).boxI (h.ids 1) h :: plB h 1 (putC h x.y x.z)⟩
def SM (h : Sh) : Sums := sumF 7 (callG (chC h) (pcO h)) (sumF 8 (callG (nsC h) (pcO h)) (sumF 9 (callG (prCD h) (pcO h)) (sumF 10 (callG (ofC h) (pczO h)) (sumF 11 (callG (sgCD h) (pczO h))
  (sumF 13 (callNG [(fun (x : Pcz) => match decide (x.z = 1) with
  | true => h.f
  | false => h.u2, poCNc h)] (poCOc h) (pczO h)) (sumF 14 (callG (cpC h) (pcO h)) (sumF 15 (callG (puC h) (pcuO h)) SO)))))))
def Sh.nn (h : Sh) : Bool := cond h.e (cond h.f h.u2 false) false
def noteV (h : Sh) (i n : Nat) : AVal := match h.nn with
  | true => .nils
  | false => .slice (.own i 0 0 1) n none
def noteB (h : Sh) (l : List Int) : List Blk := match h.nn with
  | true => []
  | false => [intsB l]
def Sh.bd (h : Sh) : Nat := cond h.nn 3 4
def incs : List Int → List Int → List Int
  | v, [] => v
  | v, n :: l => incs (v.set n.toNat (v.getD n.toNat 0 + 1)) l
structure Mb where
  y : Pc
  l : Cs
  v : List Int
  note : List Int
def opsO : Blk → Option Cs
  | .segs [⟨_, _, [.int _ k, .int _ a, .int _ b, .int _ g]⟩] => some ⟨k, a, b, g⟩
  | _ => none
def intsO : Blk → Option (List Int)
  | .segs [⟨_, _, [.int _ l]⟩] => some l
  | _ => none
def boxO : Blk → Option (Int × Int)
  | .segs [_, _, ⟨_, _, [.int _ [la]]⟩, ⟨_, _, [.int _ [ep]]⟩] => some (la, ep)
  | _ => none
def okNote (l : Cs) (note : List Int) : Prop := ∀ n ∈ note, 0 ≤ n ∧ n < l.k.length ∧ classE ⟨l.k.getD n.toNat 0, l.a.getD n.toNat 0, l.b.getD n.toNat 0, l.g.getD n.toNat 0⟩ = 0
open Classical in
noncomputable def okMb (h : Sh) (x : Mb) : Bool := decide (okNote x.l x.note ∧ x.note.length ≤ 100 ∧ x.l.k.length ≤ 100 ∧ x.v.length = x.l.k.length ∧ (∀ c ∈ x.v, 0 ≤ c ∧ c ≤ 10) ∧ (h.nn = true → x.note = []) ∧ wfOk h x.y = true)
noncomputable def bD (h : Sh) : RDeal Mb where
  ins x := [(3, .ptr (.own 0 0 0 0)), (6, .slice (.own 1 0 0 4) x.l.k.length none), (7, .slice (.own 2 0 0 1) x.v.length (some x.v.length)), (8, noteV h 3 x.note.length), (11, .int .i64 0)]
  blks x := x.y.boxI (h.ids h.bd) h :: x.l.blk :: intsB x.v :: (noteB h x.note ++ plB h h.bd x.y)
  pre x := okMb h x
  alts := [⟨Unit, .exit 2, fun _ _ => True, fun x _ => [(3, .ptr (.own 0 0 0 0)), (6, .slice (.own 1 0 0 4) x.l.k.length none), (7, .slice (.own 2 0 0 1) x.v.length (some x.v.length))], fun x _ => x.y.boxI (h.ids 3) h :: x.l.blk :: .segs [⟨x.v.length, 1, [.int .i64 (incs x.v x.note)]⟩] :: plB h 3 x.y⟩]
def takeI (nil : Bool) (Bs : List Blk) : Option (List Int × List Blk) := match nil, Bs with
  | true, R => some ([], R)
  | false, .segs [⟨_, _, [.int _ l]⟩] :: R => some (l, R)
  | _, _ => none
def bO (h : Sh) (_ : List AVal) (Bs : List Blk) : Option Mb := match Bs with
  | X :: L :: V :: R => match boxO X, opsO L, intsO V, takeI h.nn R with
    | some (la, ep), some l, some v, some (note, R) => match pcFrom h la ep R with
      | some (y, _) => some ⟨y, l, v, note⟩
      | none => none
    | _, _, _, _ => none
  | _ => none
def okIn (h : Sh) (y : Pc) (l : Cs) (v : List Int) : Prop := v = List.replicate l.k.length 1 ∧ l.k.length ≤ 100 ∧ (∀ i : Nat, 1 ≤ i → i < l.k.length → sgNc h y (i - 1) ≤ sgNc h y i) ∧ wfOk h y = true
open Classical in
noncomputable def okMc (h : Sh) (x : Mb) : Bool := decide (okIn h x.y x.l x.v)
noncomputable def cD (h : Sh) : RDeal Mb where
  ins x := [(3, .ptr (.own 0 0 0 0)), (6, .slice (.own 1 0 0 4) x.l.k.length none), (7, .slice (.own 2 0 0 1) x.v.length (some x.v.length)), (12, .int .i64 0)]
  blks x := x.y.boxI (h.ids 3) h :: x.l.blk :: intsB x.v :: plB h 3 x.y
  pre x := okMc h x
  alts := [⟨Unit, .exit 4, fun _ _ => True, fun x _ => [(3, .ptr (.own 0 0 0 0)), (6, .slice (.own 1 0 0 4) x.l.k.length none)], fun x _ => x.y.boxI (h.ids 2) h :: x.l.blk :: plB h 2 x.y⟩]
def cO (h : Sh) (_ : List AVal) (Bs : List Blk) : Option Mb := match Bs with
  | X :: L :: V :: R => match boxO X, opsO L, intsO V with
    | some (la, ep), some l, some v => match pcFrom h la ep R with
      | some (y, _) => some ⟨y, l, v, []⟩
      | none => none
    | _, _, _ => none
  | _ => none
def Sh.nq (h : Sh) : Nat := cond h.f 0 1 + cond h.u2 0 1
def Sh.iy (h : Sh) (d : Nat) : Ids := ⟨d, d + h.iS, d + (h.iS + 1) + (h.iS + 1), d + (h.iS + 1) + (h.iS + 1) + cond h.f 0 1⟩
def Sh.ic (h : Sh) (d : Nat) : Ids := ⟨d + (h.iS + 1), d + (h.iS + 1) + h.iS, d + (h.iS + 1) + (h.iS + 1) + h.nq, d + (h.iS + 1) + (h.iS + 1) + h.nq + cond h.f 0 1⟩
def twoB (h : Sh) (d : Nat) (y c : Pc) : List Blk := lsC h.e y.pre ++ (y.stI (h.iy d) h :: (lsC h.e c.pre ++ (c.stI (h.ic d) h :: (y.qs h ++ c.qs h))))
structure Md where
  y : Pc
  l : Cs
  c : Pc
def alike (h : Sh) (y c : Pc) : Prop := wfOk h c = true ∧ c.pre.k.length = y.pre.k.length ∧ c.q1.k.length = y.q1.k.length ∧ c.q2.k.length = y.q2.k.length ∧ c.la = y.la ∧ c.ep = y.ep
def firstBad (c : Pc) : Prop := match c.pl.pre with
  | [] => c.o1 = bad
  | x :: _ => x = bad
def putAll (h : Sh) (x : Md) (c : Pc) : Prop := alike h x.c c ∧ firstBad c
open Classical in
noncomputable def okMd (h : Sh) (x : Md) : Bool := decide (wfOk h x.c = true ∧ wfOk h x.y = true ∧ (x.l.k.length : Int) = h.N x.c.pl ∧ x.l.k.length ≤ 100)
noncomputable def dD (h : Sh) : RDeal Md where
  ins x := [(3, .ptr (.own 0 0 0 0)), (6, .slice (.own 1 0 0 4) x.l.k.length none), (13, .ptr (.own 2 0 0 0)), (14, .slice (.own 3 0 0 4) x.l.k.length none), (15, .int .i64 0)]
  blks x := x.y.boxI (h.iy 4) h :: x.l.blk :: x.c.boxI (h.ic 4) h :: x.l.blk :: twoB h 4 x.y x.c
  pre x := okMd h x
  alts := [⟨Pc, .exit 6, putAll h, fun x _ => [(3, .ptr (.own 0 0 0 0)), (6, .slice (.own 1 0 0 4) x.l.k.length none), (13, .ptr (.own 2 0 0 0))], fun x c => x.y.boxI (h.iy 3) h :: x.l.blk :: c.boxI (h.ic 3) h :: twoB h 3 x.y c⟩]
def twoO (h : Sh) (la ep la' ep' : Int) (Bs : List Blk) : Option (Pc × Pc) := match takeC h.e Bs with
  | some (pre, R) => match takeSt h.t R with
    | some (o1, o2, R) => match takeC h.e R with
      | some (pre', R) => match takeSt h.t R with
        | some (o1', o2', R) => match takeC h.f R with
          | some (q1, R) => match takeC h.u2 R with
            | some (q2, R) => match takeC h.f R with
              | some (q1', R) => match takeC h.u2 R with
                | some (q2', _) => some (⟨pre, o1, q1, o2, q2, la, ep⟩, ⟨pre', o1', q1', o2', q2', la', ep'⟩)
                | none => none
              | none => none
            | none => none
          | none => none
        | none => none
      | none => none
    | none => none
  | none => none
def dO (h : Sh) (_ : List AVal) (Bs : List Blk) : Option Md := match Bs with
  | X :: L :: C :: _ :: R => match boxO X, opsO L, boxO C with
    | some (la, ep), some l, some (la', ep') => match twoO h la ep la' ep' R with
      | some (y, c) => some ⟨y, l, c⟩
      | none => none
    | _, _, _ => none
  | _ => none
structure Me where
  l : Cs
  c : Pc
def okMe (h : Sh) (x : Me) : Bool := wfOk h x.c && decide (x.l.k.length ≤ 100)
def eD (h : Sh) : RDeal Me where
  ins x := [(6, .slice (.own 0 0 0 4) x.l.k.length none), (13, .ptr (.own 1 0 0 0)), (16, .slice (.own 2 0 0 4) x.l.k.length none), (17, .int .i64 0)]
  blks x := x.l.blk :: x.c.boxI (h.ids 3) h :: x.l.blk :: plB h 3 x.c
  pre x := okMe h x
  alts := [⟨Unit, .exit 8, fun _ _ => True, fun _ _ => [(13, .ptr (.own 0 0 0 0))], fun x _ => x.c.boxI (h.ids 1) h :: plB h 1 x.c⟩]
def eO (h : Sh) (_ : List AVal) (Bs : List Blk) : Option Me := match Bs with
  | L :: C :: _ :: R => match opsO L, boxO C with
    | some l, some (la, ep) => match pcFrom h la ep R with
      | some (c, _) => some ⟨l, c⟩
      | none => none
    | _, _ => none
  | _ => none
def qB : List Bool := [false, true, false, true, true, true, true, true, true, true, true, true]
def qC : List Bool := [false, true, false, true, true, true, true, true, true, true, true, true, true]
def qD : List Bool := [false, true, false, true, true, true, true, true, true, true, true, true, true, true, true, true, true]
def qE : List Bool := [false, true, false, true, true, true, true, true, true, true, true, true, true, true, true, true, true, true, true]
noncomputable def MT (h : Sh) : Tolds := sumT 3 qB (toldR 230 (bD h) [3, 6, 7, 8, 11] (bO h)) (sumT 3 qC (toldR 230 (cD h) [3, 6, 7, 12] (cO h)) (sumT 3 qD (toldR 230 (dD h) [3, 6, 13, 14, 15] (dO h)) (sumT 3 qE (toldR 230 (eD h) [6, 13, 16, 17] (eO h)) noT)))
end Go.Proofs.Ytompijagcjjamaa

namespace Go.Proofs.Ytompijagcjjamaa
open Ab
theorem Cs.wf_of {s : Cs} (h : s.wf = true) : s = Cs.of s.un ∧ s.un.length = s.k.length := by
  obtain ⟨k, a, b, g⟩ := s
  simp only [Cs.wf, Bool.and_eq_true, decide_eq_true_eq] at h
  obtain ⟨h1, h2, h3⟩ := h
  have key : ∀ (k a b g : List Int), a.length = k.length → b.length = k.length → g.length = k.length → k4 (un4 k a b g) = k ∧ a4 (un4 k a b g) = a ∧ b4 (un4 k a b g) = b ∧ g4 (un4 k a b g) = g := by
    intro k
    induction k with
    | nil =>
      intro a b g h1 h2 h3
      cases a with
      | cons => simp at h1
      | nil =>
        cases b with
        | cons => simp at h2
        | nil =>
          cases g with
          | cons => simp at h3
          | nil => exact ⟨rfl, rfl, rfl, rfl⟩
    | cons x k ih =>
      intro a b g h1 h2 h3
      cases a with
      | nil => simp at h1
      | cons y a =>
        cases b with
        | nil => simp at h2
        | cons z b =>
          cases g with
          | nil => simp at h3
          | cons u g =>
            obtain ⟨e1, e2, e3, e4⟩ := ih a b g (by simpa using h1) (by simpa using h2) (by simpa using h3)
            simp only [k4, a4, b4, g4] at e1 e2 e3 e4
            simp only [un4, k4, a4, b4, g4, List.map_cons, e1, e2, e3, e4, and_self]
  obtain ⟨e1, e2, e3, e4⟩ := key k a b g h1 h2 h3
  refine ⟨by simp only [Cs.of, Cs.un, e1, e2, e3, e4], ?_⟩
  have := k4_length (un4 k a b g)
  rw [e1] at this
  exact this.symm
theorem Cs.blk_un {s : Cs} (h : s.wf = true) : s.blk = opsB s.un := by
  have := (Cs.wf_of h).1
  conv => lhs; rw [this]
  exact cs_opsB _
theorem Cs.of_wf (l : List O4) : (Cs.of l).wf = true := by
  simp [Cs.wf, Cs.of, k4, a4, b4, g4]
theorem Cs.un_of (l : List O4) : (Cs.of l).un = l := un4_of l
theorem lsC_eq {s : Cs} (h : s.wf = true) (nil : Bool) : lsC nil s = lsB nil s.un := by
  cases nil
  · show [s.blk] = [opsB s.un]; rw [Cs.blk_un h]
  · rfl
section
variable {y : Pc} {h : Sh}
theorem Pc.v_pl (hw : y.wf = true) : y.v h = y.pl.v h := by
  simp only [Pc.wf, Bool.and_eq_true] at hw
  show AVal.agg [slV h.e 0 y.pre.k.length, _, _, _] = AVal.agg [slV h.e 0 y.pre.un.length, _, _, _]
  rw [(Cs.wf_of hw.1).2]; rfl
theorem Pc.vI_pl (hw : y.wf = true) (I : Ids) : y.vI I h = y.pl.vI I h := by
  simp only [Pc.wf, Bool.and_eq_true] at hw
  show AVal.agg [slV h.e I.p y.pre.k.length, _, _, _] = AVal.agg [slV h.e I.p y.pre.un.length, _, _, _]
  rw [(Cs.wf_of hw.1).2]; rfl
theorem Pc.stI_pl (hw : y.wf = true) (I : Ids) : y.stI I h = y.pl.stI I h := by
  simp only [Pc.wf, Bool.and_eq_true] at hw
  obtain ⟨e, f, t, u⟩ := h
  have e1 := (Cs.wf_of hw.2.1).2
  have e2 := (Cs.wf_of hw.2.2).2
  cases f <;> cases t <;> cases u <;> simp only [Pc.stI, Pl.stI, Pc.colI, Pl.colI, Pc.pl, e1, e2]
theorem Pc.qs_pl (hw : y.wf = true) : y.qs h = y.pl.qs h := by
  simp only [Pc.wf, Bool.and_eq_true] at hw
  obtain ⟨e, f, t, u⟩ := h
  cases t <;> simp only [Pc.qs, Pl.qs, lsC_eq hw.2.1, lsC_eq hw.2.2, Pc.pl]
theorem Pc.boxI_pl (hw : y.wf = true) (I : Ids) : y.boxI I h = y.pl.boxI I h := by
  simp only [Pc.wf, Bool.and_eq_true] at hw
  show Blk.segs [⟨1, 1, [.val [slV h.e I.p y.pre.k.length]]⟩, _, _, _] = Blk.segs [⟨1, 1, [.val [slV h.e I.p y.pre.un.length]]⟩, _, _, _]
  rw [(Cs.wf_of hw.1).2]; rfl
theorem plB_pl (hw : y.wf = true) (d : Nat) : plB h d y = lsB h.e y.pl.pre ++ (y.pl.stI (h.ids d) h :: y.pl.qs h) := by
  have hw' := hw
  simp only [Pc.wf, Bool.and_eq_true] at hw'
  rw [plB, lsC_eq hw'.1, Pc.stI_pl hw, Pc.qs_pl hw]; rfl
theorem blks_eq (p : Pl) : p.blks h = lsB h.e p.pre ++ (p.stI (h.ids 0) h :: p.qs h) := by
  obtain ⟨e, f, t, u⟩ := h
  cases e <;> cases f <;> cases t <;> cases u <;> rfl
theorem plB0 (hw : y.wf = true) : plB h 0 y = y.pl.blks h := by rw [plB_pl hw, blks_eq]
theorem Pc.of_pl (p : Pl) : (Pc.of p).pl = p := by
  obtain ⟨a, b, c, d, e, f, g⟩ := p
  simp only [Pc.of, Pc.pl, Cs.un_of]
theorem Pc.of_wf (p : Pl) : (Pc.of p).wf = true := by
  simp only [Pc.wf, Pc.of, Cs.of_wf, Bool.and_self]
end
section
variable {E : Nat → Nat → Seg} {ra : Nat → Nat → Nat × Nat} {base : Nat} {h : Sh}
theorem plB_length {y : Pc} (hw : y.wf = true) : (plB h 0 y).length = h.n := by rw [plB0 hw, Pl.blks_length]
theorem chC_ok (y : Pc) (hx : (chC h).pre y = true) (kk : Nat) : Gives Try.prog E ra base kk 7 ((chC h).args y) (hp 0 ((chC h).blks y)) fun v h' => v = (chC h).out y ∧ h' = hp 0 ((chC h).blks' y) := by
  simp only [chC, ckOk, Bool.and_eq_true] at hx ⊢
  rw [Pc.v_pl hx.1, plB0 hx.1]
  exact ch_own y.pl hx.2 kk
theorem nsC_ok (y : Pc) (hx : (nsC h).pre y = true) (kk : Nat) : Gives Try.prog E ra base kk 8 ((nsC h).args y) (hp 0 ((nsC h).blks y)) fun v h' => v = (nsC h).out y ∧ h' = hp 0 ((nsC h).blks' y) := by
  simp only [nsC, wfOk, Bool.and_eq_true] at hx ⊢
  rw [Pc.v_pl hx.1, plB0 hx.1]
  exact nodes_own (sound_ok hx.2) kk
theorem prC_ok (y : Pc) (hx : (prCD h).pre y = true) (kk : Nat) : Gives Try.prog E ra base kk 9 ((prCD h).args y) (hp 0 ((prCD h).blks y)) fun v h' => v = (prCD h).out y ∧ h' = hp 0 ((prCD h).blks' y) := by
  simp only [prCD, fullOk, Bool.and_eq_true] at hx ⊢
  rw [Pc.v_pl hx.1, plB0 hx.1]
  exact pr_own y.pl hx.2 kk
theorem ofC_ok (x : Pcz) (hx : (ofC h).pre x = true) (kk : Nat) : Gives Try.prog E ra base kk 10 ((ofC h).args x) (hp 0 ((ofC h).blks x)) fun v h' => v = (ofC h).out x ∧ h' = hp 0 ((ofC h).blks' x) := by
  simp only [ofC, ofOkc, Bool.and_eq_true] at hx ⊢
  rw [Pc.v_pl hx.1, plB0 hx.1]
  exact of_own ⟨x.y.pl, x.z⟩ hx.2 kk
theorem sgC_ok (x : Pcz) (hx : (sgCD h).pre x = true) (kk : Nat) : Gives Try.prog E ra base kk 11 ((sgCD h).args x) (hp 0 ((sgCD h).blks x)) fun v h' => v = (sgCD h).out x ∧ h' = hp 0 ((sgCD h).blks' x) := by
  simp only [sgCD, sgOkc, Bool.and_eq_true] at hx ⊢
  rw [Pc.v_pl hx.1, plB0 hx.1]
  exact stg_own ⟨x.y.pl, x.z⟩ hx.2 kk
theorem poNc_ok (x : Pcz) (hx : (poCNc h).pre x = true) (kk : Nat) : Gives Try.prog E ra base kk 13 ((poCNc h).args x) (hp 0 ((poCNc h).blks x)) fun v h' => v = (poCNc h).out x ∧ h' = hp 0 ((poCNc h).blks' x) := by
  simp only [poCNc, poOkN, Bool.and_eq_true] at hx ⊢
  rw [Pc.v_pl hx.1, plB0 hx.1]
  exact poN_own ⟨x.y.pl, x.z⟩ hx.2 kk
theorem poOc_ok (x : Pcz) (hx : (poCOc h).pre x = true) (kk : Nat) : Gives Try.prog E ra base kk 13 ((poCOc h).args x) (hp 0 ((poCOc h).blks x)) fun v h' => v = (poCOc h).out x ∧ h' = hp 0 ((poCOc h).blks' x) := by
  simp only [poCOc, poOkO, Bool.and_eq_true] at hx ⊢
  rw [Pc.v_pl hx.1, plB0 hx.1]
  exact poO_own ⟨x.y.pl, x.z⟩ hx.2 kk
theorem cpC_of (hc : ∀ y : Pl, fullB h y = true → Gives Try.prog E ra base h.n 14 ((cpD h).args y) (hp 0 ((cpD h).blks y)) fun v h' => v = (cpD h).out y ∧ h' = hp 0 ((cpD h).blks' y)) (y : Pc) (hx : (cpC h).pre y = true) :
    Gives Try.prog E ra base ((cpC h).blks y).length 14 ((cpC h).args y) (hp 0 ((cpC h).blks y)) fun v h' => v = (cpC h).out y ∧ h' = hp 0 ((cpC h).blks' y) := by
  have hx' : y.wf = true ∧ fullB h y.pl = true := by simpa only [cpC, fullOk, Bool.and_eq_true] using hx
  obtain ⟨hw, hf⟩ := hx'
  have hw' := hw
  simp only [Pc.wf, Bool.and_eq_true] at hw'
  show Gives Try.prog E ra base (plB h 0 y).length 14 [y.v h] (hp 0 (plB h 0 y)) fun v h' => v = y.vI (h.idc h.n) h ∧ h' = hp 0 (plB h 0 y ++ (lsC h.e y.pre ++ (y.qs h ++ [y.stI (h.idc h.n) h])))
  rw [plB_length hw, Pc.v_pl hw, plB0 hw, Pc.vI_pl hw, lsC_eq hw'.1, Pc.qs_pl hw, Pc.stI_pl hw]
  exact hc y.pl hf
theorem puC_of (hc : ∀ x : PuX, (puD h).pre x = true → Gives Try.prog E ra base (h.n + 1) 15 ((puD h).args x) (hp 0 ((puD h).blks x)) fun v h' => v = (puD h).out x ∧ h' = hp 0 ((puD h).blks' x)) (x : Pcz) (hx : (puC h).pre x = true) :
    Gives Try.prog E ra base ((puC h).blks x).length 15 ((puC h).args x) (hp 0 ((puC h).blks x)) fun v h' => v = (puC h).out x ∧ h' = hp 0 ((puC h).blks' x) := by
  obtain ⟨y, z⟩ := x
  have hx' : y.wf = true ∧ (puD h).pre ⟨y.pl, z⟩ = true := by simpa only [puC, puOk, Bool.and_eq_true] using hx
  obtain ⟨hw, hf⟩ := hx'
  have hl : (plB h 1 y).length = h.n := by
    have := plB_length (h := h) hw
    simp only [plB, List.length_append, List.length_cons] at this ⊢
    exact this
  show Gives Try.prog E ra base (y.boxI (h.ids 1) h :: plB h 1 y).length 15 [.ptr (.own 0 0 0 0), .int .i64 z, badV] (hp 0 (y.boxI (h.ids 1) h :: plB h 1 y)) fun v h' => v = .undef ∧ h' = hp 0 ((putC h y z).boxI (h.ids 1) h :: plB h 1 (putC h y z))
  rw [List.length_cons, hl, Pc.boxI_pl hw, plB_pl hw]
  have hw2 : (putC h y z).wf = true := Pc.of_wf _
  rw [Pc.boxI_pl hw2, plB_pl hw2, show (putC h y z).pl = putP h y.pl z from Pc.of_pl _]
  exact hc ⟨y.pl, z⟩ hf
theorem SM_of (hE : Plain E) (hc : ∀ y : Pl, fullB h y = true → Gives Try.prog E ra base h.n 14 ((cpD h).args y) (hp 0 ((cpD h).blks y)) fun v h' => v = (cpD h).out y ∧ h' = hp 0 ((cpD h).blks' y))
    (hu : ∀ x : PuX, (puD h).pre x = true → Gives Try.prog E ra base (h.n + 1) 15 ((puD h).args x) (hp 0 ((puD h).blks x)) fun v h' => v = (puD h).out x ∧ h' = hp 0 ((puD h).blks' x)) : SumsOK Try.prog E ra base (SM h) := by
  refine sumG_deal hE (sumG_deal hE (sumG_deal hE (sumG_deal hE (sumG_deal hE (sumNG_deal hE (sumG_deal hE (sumG_deal hE (SO_ok hE) ⟨_, Try.func15, by kernel_rfl⟩ (puC_of hu)) ⟨_, Try.func14, by kernel_rfl⟩ (cpC_of hc)) ⟨_, Try.func13, by kernel_rfl⟩ (fun q hq => ?_) fun x hx => poOc_ok x hx _)
    ⟨_, Try.func11, by kernel_rfl⟩ fun x hx => sgC_ok x hx _) ⟨_, Try.func10, by kernel_rfl⟩ fun x hx => ofC_ok x hx _) ⟨_, Try.func9, by kernel_rfl⟩ fun y hy => prC_ok y hy _) ⟨_, Try.func8, by kernel_rfl⟩ fun y hy => nsC_ok y hy _) ⟨_, Try.func7, by kernel_rfl⟩ fun y hy => chC_ok y hy _
  simp only [List.mem_singleton] at hq
  subst hq
  exact fun x hx => poNc_ok x hx _
theorem SM_ok (hE : Plain E) (ht : h.t = true ∨ h.u = false) : SumsOK Try.prog E ra base (SM h) := by
  obtain ⟨e, f, t, u⟩ := h
  cases e <;> cases f <;> cases t <;> cases u <;> first
    | (exact absurd ht (by decide))
    | exact SM_of hE (fun y hy => copy_ok hE y hy) (fun x hx => put0000 hE x hx)
    | exact SM_of hE (fun y hy => copy_ok hE y hy) (fun x hx => put0010 hE x hx)
    | exact SM_of hE (fun y hy => copy_ok hE y hy) (fun x hx => put0011 hE x hx)
    | exact SM_of hE (fun y hy => copy_ok hE y hy) (fun x hx => put0100 hE x hx)
    | exact SM_of hE (fun y hy => copy_ok hE y hy) (fun x hx => put0110 hE x hx)
    | exact SM_of hE (fun y hy => copy_ok hE y hy) (fun x hx => put0111 hE x hx)
    | exact SM_of hE (fun y hy => copy_ok hE y hy) (fun x hx => put1000 hE x hx)
    | exact SM_of hE (fun y hy => copy_ok hE y hy) (fun x hx => put1010 hE x hx)
    | exact SM_of hE (fun y hy => copy_ok hE y hy) (fun x hx => put1011 hE x hx)
    | exact SM_of hE (fun y hy => copy_ok hE y hy) (fun x hx => put1100 hE x hx)
    | exact SM_of hE (fun y hy => copy_ok hE y hy) (fun x hx => put1110 hE x hx)
    | exact SM_of hE (fun y hy => copy_ok hE y hy) (fun x hx => put1111 hE x hx)
end
end Go.Proofs.Ytompijagcjjamaa

namespace Go.Proofs.Ytompijagcjjamaa
open Ab
theorem sameA_self : ∀ a : AAddr, sameA a a = true
  | .own .. => by simp [sameA]
  | .ro .. => by simp [sameA]
theorem sameCap_self (c : Option Nat) : sameCap c c = true := by cases c <;> simp [sameCap]
mutual
theorem sameV_self : ∀ a : AVal, sameV a a = true
  | .undef | .nilp | .nils | .nilf | .nili | .nilm => rfl
  | .bool _ | .int _ _ | .str _ => by simp [sameV]
  | .ptr a => sameA_self a
  | .slice a l c => by simp [sameV, sameA_self, sameCap_self]
  | .fn f cs => by simp [sameV, sameL_self cs]
  | .yld _ | .mapv _ => by simp [sameV]
  | .iface t v => by simp [sameV, sameV_self v]
  | .agg cs => sameL_self cs
  | .tup cs => sameL_self cs
theorem sameL_self : ∀ l : List AVal, sameL l l = true
  | [] => rfl
  | a :: l => by simp [sameL, sameV_self a, sameL_self l]
end
def okC : Col → Bool
  | .mix .. => false
  | _ => true
def okSs (l : List Seg) : Bool := l.all fun s => s.cols.all okC
def okBs : List Blk → Bool
  | [] => true
  | .segs l :: r => okSs l && okBs r
  | _ => false
theorem sameC_self {c : Col} (h : okC c = true) : sameC c c = true := by
  cases c <;> first | cases h; done | simp [sameC, sameL_self]
theorem sameCs_self : ∀ {l : List Col}, l.all okC = true → sameCs l l = true
  | [], _ => rfl
  | c :: l, h => by
    simp only [List.all_cons, Bool.and_eq_true] at h
    simp [sameCs, sameC_self h.1, sameCs_self h.2]
theorem sameSs_self : ∀ {l : List Seg}, okSs l = true → sameSs l l = true
  | [], _ => rfl
  | s :: l, h => by
    simp only [okSs, List.all_cons, Bool.and_eq_true] at h
    simp [sameSs, sameCs_self h.1, sameSs_self (l := l) h.2]
theorem sameBl_self : ∀ {l : List Blk}, okBs l = true → sameBl l l = true
  | [], _ => rfl
  | .segs s :: l, h => by
    simp only [okBs, Bool.and_eq_true] at h
    simp [sameBl, sameB, sameSs_self h.1, sameBl_self h.2]
  | .map _ :: _, h => by cases h
  | .loop .. :: _, h => by cases h
def eB (l : List Blk) : Bool := sameBl l l && true
def eV (l : List AVal) : Bool := sameL l l && true
theorem eV_eq (l : List AVal) : eV l = true := by simp [eV, sameL_self]
theorem eB_eq {l : List Blk} (h : okBs l = true) : eB l = true := by simp [eB, sameBl_self h]
def Pc.nrm (h : Sh) (y : Pc) : Pc := ⟨cond h.e Cs.nil y.pre, y.o1, cond h.f Cs.nil y.q1, cond h.t y.o2 z4, cond h.u2 Cs.nil y.q2, y.la, y.ep⟩
theorem ok_plB (h : Sh) (d : Nat) (y : Pc) : okBs (plB h d y) = true := by
  obtain ⟨e, f, t, u⟩ := h
  cases e <;> cases f <;> cases t <;> cases u <;> rfl
theorem ok_box (I : Ids) (h : Sh) (d : Nat) (y : Pc) : okBs (y.boxI I h :: plB h d y) = true := ok_plB h d y
def rg (a n : Nat) : List Nat := (List.range n).map (a + ·)
def inL (i : Int) (n : Nat) : Bool := decide (0 ≤ i) && decide (i < (n : Int))
def nL (i : Int) (n : Nat) : Bool := decide (0 + i.toNat < n)
def nd1 (l : Cs) (i : Int) : O4 := ⟨l.k.getD (0 + i.toNat) 0, l.a.getD (0 + i.toNat) 0, l.b.getD (0 + i.toNat) 0, l.g.getD (0 + i.toNat) 0⟩
def same4 (x y : O4) : Bool := decide (x.k = y.k) && (decide (x.a = y.a) && (decide (x.b = y.b) && (decide (x.g = y.g) && true)))
theorem same4_self (x : O4) : same4 x x = true := by simp [same4]
end Go.Proofs.Ytompijagcjjamaa
