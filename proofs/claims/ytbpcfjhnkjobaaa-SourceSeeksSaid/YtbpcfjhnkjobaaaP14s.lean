/- source: SourceSeeks: the loops, told. -/
import Derived.Test.YtbpcfjhnkjobaaaP14r
set_option linter.unusedSimpArgs false
namespace Go.Proofs.Ytbpcfjhnkjobaaa
open Ab

section
variable {ra : Nat → Nat → Nat × Nat} {base : Nat} {T : Tb}

theorem sameS_iff {y z : Sr} : sameS y z = true ↔ y = z := by
  obtain ⟨a1, a2, a3, a4, a5⟩ := y
  obtain ⟨b1, b2, b3, b4, b5⟩ := z
  simp only [sameS, Bool.and_eq_true, decide_eq_true_eq, Sr.mk.injEq, sameI_iff]
  constructor
  · rintro ⟨h1, h2, h3, h4, h5⟩; exact ⟨h5, h1, h2, h3, h4⟩
  · rintro ⟨h5, h1, h2, h3, h4⟩; exact ⟨h1, h2, h3, h4, h5⟩

def fpOf (y : Sr) : Fp := ⟨y.f, y.pl, y.over⟩
theorem on_nth {y : Sr} (h : okSr y = true) (k : Nat) : (fpOf (nth k y)).on y = nth k y := by
  obtain ⟨_, h2, h3⟩ := nth_ok h k
  show (⟨y.it, y.late, _, _, _⟩ : Sr) = _
  rw [← h2, ← h3]; rfl
def Sa.st1 (x : Sa) (i : Nat) : Sa := ⟨x.p, x.q, ⟨x.s.full, x.s.y, nth i x.s.z⟩, x.al, x.n⟩
def Sa.st2 (x : Sa) (i : Nat) : Sa := ⟨x.p, x.q, ⟨x.s.full, nth i x.s.y, x.s.z⟩, x.al, x.n⟩
theorem ok_st1 {x : Sa} (h : okSq x.s = true) (i : Nat) : okSq (x.st1 i).s = true := by
  obtain ⟨h1, h2, h3⟩ := okSq_iff.1 h
  exact okSq_iff.2 ⟨h1, both_nth h2 i, (nth_ok (okBoth_iff.1 h2).1 i).2.1.trans h3⟩
theorem ok_st2 {x : Sa} (h : okSq x.s = true) (i : Nat) : okSq (x.st2 i).s = true := by
  obtain ⟨h1, h2, h3⟩ := okSq_iff.1 h
  exact okSq_iff.2 ⟨both_nth h1 i, h2, h3.trans (nth_ok (okBoth_iff.1 h1).1 i).2.1.symm⟩

theorem s1_takes (x : Sa) (hx : s1D.pre x = true) : Takes Try.prog (tabT T) ra base 0 (.loop (codeOf 5 (false :: p1))) (mkT 161 (s1D.ins x)) (hp 0 (s1D.blks x)) fun w => PostL 161 x w s1D.alts := by
  simp only [s1D, Bool.and_eq_true, decide_eq_true_eq, Bool.not_eq_true'] at hx
  obtain ⟨h0, h1, h2, h3⟩ := hx
  obtain ⟨g1, g2, g3⟩ := okSq_iff.1 h0
  have hN : New x.s.z := ⟨(okBoth_iff.1 g2).1, h2, h1, h3⟩
  have hA := hN.all_le.2
  refine takes_loop (fun j ts h => ∃ i : Nat, i ≤ allN x.s.z ∧ j = allN x.s.z - i + 1 ∧ ts = mkT 161 ((x.st1 i).at1 i) ∧ h = hp 0 (x.st1 i).box) (fun ts h => by rintro ⟨_, _, h, _⟩; omega) (fun j ts h' => ?_) (j := allN x.s.z + 1) ⟨0, Nat.zero_le _, rfl, rfl, rfl⟩
  rintro ⟨i, k1, k2, rfl, rfl⟩
  have ho := hN.over_nth k1
  refine (s1_step (x.st1 i) (ok_st1 h0 i) (by omega)).mono ?_
  rintro w (⟨q1, q2, rfl⟩ | ⟨q1, rfl⟩)
  · have q1 : (nth i x.s.z).over = false := q1
    rw [ho] at q1
    have := of_decide_eq_false q1
    exact ⟨i + 1, by omega, by omega, rfl, rfl⟩
  · have hi : i = allN x.s.z := by
      rcases q1 with q1 | q1
      · have q1 : (nth i x.s.z).over = true := q1
        rw [ho] at q1
        exact of_decide_eq_true q1
      · omega
    subst hi
    refine ⟨⟨allI x.s.z, fpOf (fin x.s.z)⟩, ⟨rfl, on_nth hN.ok _⟩, ?_⟩
    simp only [s1D]
    rw [show (fpOf (fin x.s.z)).on x.s.z = nth (allN x.s.z) x.s.z from on_nth hN.ok _]
    rfl

theorem s2_takes (x : Sa) (hx : s2D.pre x = true) : Takes Try.prog (tabT T) ra base 0 (.loop (codeOf 5 (false :: p2))) (mkT 161 (s2D.ins x)) (hp 0 (s2D.blks x)) fun w => PostL 161 x w s2D.alts := by
  simp only [s2D, Bool.and_eq_true, decide_eq_true_eq] at hx
  obtain ⟨h0, h1, h2, h3, h4⟩ := hx
  obtain ⟨g1, g2, g3⟩ := okSq_iff.1 h0
  have hj : x.j = ((x.j.toNat : Nat) : Int) ∧ x.j.toNat ≤ 1003 := by
    have e : x.j = x.q % (x.al + 2) := Int.tmod_eq_emod_of_nonneg h1
    have := Int.emod_nonneg x.q (b := x.al + 2) (by omega)
    have := Int.emod_lt_of_pos x.q (b := x.al + 2) (by omega)
    omega
  refine takes_loop (fun j ts h => ∃ i : Nat, i ≤ x.j.toNat ∧ j = x.j.toNat - i + 1 ∧ ts = mkT 161 ((x.st2 i).at2 i) ∧ h = hp 0 (x.st2 i).box) (fun ts h => by rintro ⟨_, _, h, _⟩; omega) (fun j ts h' => ?_) (j := x.j.toNat + 1) ⟨0, Nat.zero_le _, rfl, rfl, rfl⟩
  rintro ⟨i, k1, k2, rfl, rfl⟩
  refine (s2_step (x.st2 i) (ok_st2 h0 i) (k := x.j.toNat) ⟨h3, h4⟩ ⟨h1, h2⟩ hj.1 k1 hj.2).mono ?_
  rintro w (⟨q2, rfl⟩ | ⟨rfl, rfl⟩)
  · exact ⟨i + 1, by omega, by omega, rfl, rfl⟩
  · refine ⟨fpOf (nth x.j.toNat x.s.y), on_nth (okBoth_iff.1 g1).1 _, ?_⟩
    simp only [s2D]
    rw [show (fpOf (nth x.j.toNat x.s.y)).on x.s.y = nth x.j.toNat x.s.y from on_nth (okBoth_iff.1 g1).1 _]
    rfl

theorem s3_takes (x : Sa) (hx : s3D.pre x = true) : Takes Try.prog (tabT T) ra base 0 (.loop (codeOf 5 (false :: p3))) (mkT 161 (s3D.ins x)) (hp 0 (s3D.blks x)) fun w => PostL 161 x w s3D.alts := by
  simp only [s3D, Bool.and_eq_true, decide_eq_true_eq] at hx
  obtain ⟨h0, h1, h2⟩ := hx
  obtain ⟨g1, g2, g3⟩ := okSq_iff.1 h0
  have hj : x.n = ((x.n.toNat : Nat) : Int) ∧ x.n.toNat ≤ 1001 := by omega
  refine takes_loop (fun j ts h => ∃ i : Nat, i ≤ x.n.toNat ∧ j = x.n.toNat - i + 1 ∧ ts = mkT 161 ((x.st1 i).at3 i) ∧ h = hp 0 ((x.st1 i).s.blks 0)) (fun ts h => by rintro ⟨_, _, h, _⟩; omega) (fun j ts h' => ?_) (j := x.n.toNat + 1) ⟨0, Nat.zero_le _, rfl, rfl, rfl⟩
  rintro ⟨i, k1, k2, rfl, rfl⟩
  refine (s3_step (x.st1 i) (ok_st1 h0 i) (k := x.n.toNat) hj.1 k1 hj.2).mono ?_
  rintro w (⟨q2, rfl⟩ | ⟨rfl, rfl⟩)
  · exact ⟨i + 1, by omega, by omega, rfl, rfl⟩
  · refine ⟨fpOf (nth x.n.toNat x.s.z), on_nth (okBoth_iff.1 g2).1 _, ?_⟩
    simp only [s3D]
    rw [show (fpOf (nth x.n.toNat x.s.z)).on x.s.z = nth x.n.toNat x.s.z from on_nth (okBoth_iff.1 g2).1 _]
    rfl

theorem s4_takes (x : Sa) (hx : s4D.pre x = true) : Takes Try.prog (tabT T) ra base 0 (.loop (codeOf 5 (false :: p4))) (mkT 161 (s4D.ins x)) (hp 0 (s4D.blks x)) fun w => PostL 161 x w s4D.alts := by
  obtain ⟨p, q, ⟨full, y, z⟩, al, n⟩ := x
  simp only [s4D, ok4, Bool.and_eq_true, decide_eq_true_eq, sameS_iff] at hx
  obtain ⟨h0, h1, rfl, rfl, h4, h5⟩ := hx
  obtain ⟨g1, g2, g3⟩ := okSq_iff.1 h0
  simp only at g1
  have hok := (okBoth_iff.1 g1).1
  have hN := new_start hok
  have hA := hN.all_le.2
  have hb : okBoth full (start z) = true := ok_both g1 (start_ok hok) rfl
  have hz : z = nth n.toNat (start z) := h1
  have hi : (start z).it = z.it := rfl
  have hl : (start z).late = z.late := rfl
  generalize hs : start z = s at *
  have hn : n = ((n.toNat : Nat) : Int) := by omega
  have hle : n.toNat ≤ allN s := by
    have h5 : n ≤ (allN s : Int) := h5
    omega
  refine takes_loop (fun j ts h => ∃ i : Nat, i ≤ allN s + 1 ∧ j = allN s + 1 - i + 1 ∧ ts = mkT 161 (Sa.at4 ⟨p, q, ⟨full, nth i s, nth i s⟩, allN s, n⟩ i) ∧ h = hp 0 (Sq.blks 0 ⟨full, nth i s, nth i s⟩)) (fun ts h => by rintro ⟨_, _, h, _⟩; omega) (fun j ts h' => ?_) (j := allN s + 1 - n.toNat + 1) ⟨n.toNat, by omega, rfl, ?_, by rw [← hz]; rfl⟩
  · rintro ⟨i, k1, k2, rfl, rfl⟩
    refine (s4_step (both_nth hb i) p q n k1 hA (fun hh => hN.over_nth hh)).mono ?_
    rintro w (⟨q2, rfl⟩ | ⟨rfl, rfl⟩)
    · exact ⟨i + 1, by omega, by omega, rfl, rfl⟩
    · have hf : nth (allN s + 1) s = fin s := hN.nth_fin _ (Nat.le_succ _)
      have ht := nth_ok hN.ok (allN s + 1)
      have e1 : (fpOf (fin s)).on z = fin s := by
        rw [← hf]
        show (⟨z.it, z.late, _, _, _⟩ : Sr) = _
        rw [← hi, ← hl, ← ht.2.1, ← ht.2.2]; rfl
      have e2 : s4P ⟨p, q, ⟨full, z, z⟩, allI s, n⟩ (fpOf (fin s)) := by
        show (fpOf (fin s)).on z = fin (start z)
        rw [e1, hs]
      refine ⟨fpOf (fin s), e2, ?_⟩
      simp only [s4D, e1, hf]
      have e3 : (fin s).it = z.it := by rw [← hf, ht.2.1, hi]
      rw [e3]
      cases full <;> rfl
  · show mkT 161 (Sa.at4 ⟨p, q, ⟨full, z, z⟩, allI s, n⟩ n) = _
    rw [← hn]
    rfl

theorem TS_ok (T : Tb) : ToldsOK Try.prog (tabT T) ra base 0 TS :=
  sumT_ok (sumT_ok (sumT_ok (sumT_ok noT_ok rfl (toldR_ok (c := .loop (codeOf 5 (false :: p4))) (by kernel_rfl) s4_takes)) rfl (toldR_ok (c := .loop (codeOf 5 (false :: p3))) (by kernel_rfl) s3_takes)) rfl (toldR_ok (c := .loop (codeOf 5 (false :: p2))) (by kernel_rfl) s2_takes)) rfl (toldR_ok (c := .loop (codeOf 5 (false :: p1))) (by kernel_rfl) s1_takes)
end
end Go.Proofs.Ytbpcfjhnkjobaaa
