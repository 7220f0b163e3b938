/- align: AlignCuts: the plain law. -/
import Derived.Test.YtbdjcekekhgnkaaD24f
set_option linter.unusedSimpArgs false
namespace Go.Proofs.Ytbdjcekekhgnkaa
open Ab

def pos (xs : List Int) (i : Nat) : Nat := (rowTo xs i).length

theorem pos_lt (xs : List Int) (i : Nat) : pos xs i < pos xs (i + 1) := by
  simp only [pos, rowTo, List.length_append, List.length_replicate, List.length_singleton]; omega

theorem pos_mono (xs : List Int) {i j : Nat} (h : i ≤ j) : pos xs i ≤ pos xs j := by
  induction h with
  | refl => exact Nat.le_refl _
  | step _ ih => have := pos_lt xs; exact Nat.le_trans ih (Nat.le_of_lt (this _))

theorem rowTo_pre (xs : List Int) {i m : Nat} (h : i ≤ m) : ∃ r, rowTo xs m = rowTo xs i ++ r := by
  induction h with
  | refl => exact ⟨[], by simp⟩
  | @step m _ ih =>
    obtain ⟨r, hr⟩ := ih
    exact ⟨r ++ (List.replicate (thing xs (m + 1)).toNat (-1) ++ [((m + 1 : Nat) : Int)]), by rw [rowTo, hr]; simp only [List.append_assoc]⟩

/-- what stands at a place -/
theorem row_at (xs : List Int) {i m j : Nat} (h : i + 1 ≤ m) (h1 : pos xs i ≤ j) (h2 : j < pos xs (i + 1)) :
    (rowTo xs m).getD j 0 = if j + 1 = pos xs (i + 1) then ((i + 1 : Nat) : Int) else -1 := by
  obtain ⟨r, hr⟩ := rowTo_pre xs h
  rw [hr, List.getD_eq_getElem?_getD, List.getElem?_append_left (by exact h2)]
  have e : rowTo xs (i + 1) = rowTo xs i ++ (List.replicate (thing xs (i + 1)).toNat (-1) ++ [((i + 1 : Nat) : Int)]) := by rw [rowTo, List.append_assoc]
  have hp : pos xs (i + 1) = pos xs i + ((thing xs (i + 1)).toNat + 1) := by
    simp only [pos, e, List.length_append, List.length_replicate, List.length_singleton]
  rw [e, List.getElem?_append_right (by exact h1)]
  show ((List.replicate (thing xs (i + 1)).toNat (-1) ++ [((i + 1 : Nat) : Int)])[j - pos xs i]?).getD 0 = _
  by_cases hj : j + 1 = pos xs (i + 1)
  · rw [if_pos hj, List.getElem?_append_right (by rw [List.length_replicate]; omega), List.length_replicate]
    rw [show j - pos xs i - (thing xs (i + 1)).toNat = 0 by omega]; rfl
  · rw [if_neg hj, List.getElem?_append_left (by rw [List.length_replicate]; omega), List.getElem?_replicate, if_pos (by omega)]; rfl

theorem allB_iff {p : List Bool} {g : Bool} : allB p g = true ↔ ∀ i, i < p.length → p.getD i false = g := by
  simp only [allB, List.all_eq_true, beq_iff_eq]
  constructor
  · intro h i hi
    rw [List.getD_eq_getElem?_getD, List.getElem?_eq_getElem hi]
    exact h _ (List.getElem_mem _)
  · intro h b hb
    obtain ⟨i, hi, rfl⟩ := List.getElem_of_mem hb
    have := h i hi
    rwa [List.getD_eq_getElem?_getD, List.getElem?_eq_getElem hi] at this

theorem isB_nat {p : List Bool} {k : Nat} (h : k < p.length) : isB p (k : Int) = p.getD k false := by
  simp [isB, h]

/-- how many there are; all of them, and those that are blocked -/
structure Shape (x : Al) (n K : Nat) : Prop where
  p : x.p.length = n
  q : x.q.length = K - n
  n1 : 1 ≤ n
  nK : n ≤ K
  c : x.c.length = 16
  d : x.d.length = 16
  K16 : K ≤ 16
  xn : x.n = (n : Int)
  xm : x.m = (K : Int) - n

theorem blkd_in {x : Al} {n K k : Nat} (s : Shape x n K) (h : k < n) : blkd x n k = x.p.getD k false := by
  rw [blkd, if_pos h, isB_nat (by rw [s.p]; exact h)]
theorem blkd_by {x : Al} {n K k : Nat} (s : Shape x n K) (h : n ≤ k) (hk : k < K) : blkd x n k = x.q.getD (k - n) false := by
  rw [blkd, if_neg (by omega), show ((k : Int) - n) = ((k - n : Nat) : Int) by omega, isB_nat (by rw [s.q]; omega)]

theorem phase_iff {x : Al} {n K : Nat} (s : Shape x n K) : phaseL x.p x.q = 3 ↔ ∀ k, k < K → blkd x n k = true := by
  have hp : allB x.p true = true ↔ ∀ k, k < n → blkd x n k = true := by
    rw [allB_iff, s.p]
    exact ⟨fun h k hk => by rw [blkd_in s hk]; exact h k hk, fun h k hk => by rw [← blkd_in s hk]; exact h k hk⟩
  have hq : allB x.q true = true ↔ ∀ k, n ≤ k → k < K → blkd x n k = true := by
    rw [allB_iff, s.q]
    refine ⟨fun h k h1 h2 => by rw [blkd_by s h1 h2]; exact h _ (by omega), fun h k hk => ?_⟩
    have := h (k + n) (by omega) (by omega)
    rw [blkd_by s (by omega) (by omega), Nat.add_sub_cancel] at this
    exact this
  have hnp : allB x.p true = true → allB x.p false = false := by
    intro h
    cases hf : allB x.p false with
    | false => rfl
    | true =>
      have h1 := allB_iff.1 h 0 (by rw [s.p]; exact s.n1)
      have h2 := allB_iff.1 hf 0 (by rw [s.p]; exact s.n1)
      rw [h1] at h2; cases h2
  have hall : (∀ k, k < K → blkd x n k = true) ↔ allB x.p true = true ∧ allB x.q true = true := by
    rw [hp, hq]
    exact ⟨fun h => ⟨fun k hk => h k (Nat.lt_of_lt_of_le hk s.nK), fun k _ hk => h k hk⟩, fun h k hk => by
      rcases Nat.lt_or_ge k n with h' | h'
      · exact h.1 k h'
      · exact h.2 k h' hk⟩
  rw [hall]
  unfold phaseL
  cases h1 : allB x.p true <;> cases h2 : allB x.q true <;> cases h3 : (allB x.p false && allB x.q false) <;> simp
  rw [hnp h1] at h3; cases h3

/-- what is so at each turn -/
structure Inv (T : Tc) (y : Md) (L : Nat) : Prop where
  sh : okShape T y
  s : Shape y.x y.n T.F.length
  l : y.x.l = (L : Int)
  L4 : L ≤ 4
  rows : ∃ X : Nat → List Int, ∀ k, k < T.F.length → rowAt T k = rowL (X k) ∧ (rowL (X k)).length ≤ 25 ∧ ((pos (X k) L : Nat) : Int) ≤ y.a.getD k 0 ∧ y.a.getD k 0 ≤ ((pos (X k) (L + 1) : Nat) : Int) ∧ (blkd y.x y.n k = true ↔ y.a.getD k 0 = ((pos (X k) (L + 1) : Nat) : Int))
  t : y.t = y.a.sum + L
  K7 : T.F.length ≤ 7

theorem rowL_at (xs : List Int) {i j : Nat} (h : i ≤ 4) (h1 : pos xs i ≤ j) (h2 : j < pos xs (i + 1)) : (rowL xs).getD j 0 = if j + 1 = pos xs (i + 1) then ((i + 1 : Nat) : Int) else -1 :=
  row_at xs (m := 5) (by omega) h1 h2

theorem pos_le (xs : List Int) {i : Nat} (h : i ≤ 5) : pos xs i ≤ (rowL xs).length := pos_mono xs (j := 5) h

/-- all stand at the barrier: each has just taken it -/
theorem Inv.check {T : Tc} {y : Md} {L : Nat} (I : Inv T y L) (h : phaseL y.x.p y.x.q = 3) {w : Int} (hw : w = (L : Int) + 1) : okChk T { y with w := w } := by
  obtain ⟨X, hX⟩ := I.rows
  refine ⟨I.sh, fun k hk => ?_⟩
  obtain ⟨h1, h2, h3, h4, h5⟩ := hX k hk
  have h6 := h5.1 ((phase_iff I.s).1 h k hk)
  have h7 := pos_lt (X k) L
  refine ⟨by show 1 ≤ y.a.getD k 0; omega, ?_⟩
  show lastOf T y.a k = w
  rw [lastOf, h1, h6, rowL_at (X k) I.L4 (by omega) (by omega), if_pos (by omega), hw]; omega

/-- what is told of the ways -/
theorem Inv.sync {T : Tc} {y : Md} {L : Nat} (I : Inv T y L) (h : phaseL y.x.p y.x.q ≠ 3) : okSync T y := by
  obtain ⟨X, hX⟩ := I.rows
  refine ⟨I.sh, fun k hk h0 => ?_, ?_⟩
  · obtain ⟨h1, h2, h3, h4, h5⟩ := hX k hk
    have h7 := pos_lt (X k) L
    rw [lastOf, h1, I.l]
    cases hb : blkd y.x y.n k with
    | true =>
      have h6 := h5.1 hb
      rw [h6, rowL_at (X k) I.L4 (by omega) (by omega), if_pos (by omega)]
      exact (decide_eq_true (by omega)).symm
    | false =>
      have h6 : y.a.getD k 0 ≠ ((pos (X k) (L + 1) : Nat) : Int) := fun e => by rw [h5.2 e] at hb; cases hb
      refine (decide_eq_false ?_).symm
      rcases Nat.lt_or_ge (y.a.getD k 0 - 1).toNat (pos (X k) L) with hc | hc
      · -- the barrier before
        have hL : 0 < L := by
          rcases Nat.eq_zero_or_pos L with e | e
          · subst e; simp [pos, rowTo] at hc
          · exact e
        obtain ⟨M, rfl⟩ : ∃ M, L = M + 1 := ⟨L - 1, by omega⟩
        have h8 := pos_lt (X k) M
        rw [rowL_at (X k) (i := M) (by have := I.L4; omega) (by omega) (by omega)]
        split <;> omega
      · rw [rowL_at (X k) I.L4 (by omega) (by omega), if_neg (by omega)]; omega
  · -- some way is not blocked
    have : ∃ k, k < T.F.length ∧ blkd y.x y.n k = false := by
      apply Classical.byContradiction
      intro hn
      refine h ((phase_iff I.s).2 fun k hk => ?_)
      cases hb : blkd y.x y.n k with
      | true => rfl
      | false => exact absurd ⟨k, hk, hb⟩ hn
    obtain ⟨k, hk, hb⟩ := this
    refine ⟨k, hk, ?_⟩
    obtain ⟨h1, h2, h3, h4, h5⟩ := hX k hk
    have h6 : y.a.getD k 0 ≠ ((pos (X k) (L + 1) : Nat) : Int) := fun e => by rw [h5.2 e] at hb; cases hb
    have h7 := pos_le (X k) (i := L + 1) (by have := I.L4; omega)
    simp only [may, hb, Bool.not_false, Bool.true_and, decide_eq_true_eq]
    rw [h1]; omega

theorem sum_le {l : List Int} {b : Int} (h : ∀ k, k < l.length → l.getD k 0 ≤ b) : l.sum ≤ b * l.length := by
  induction l with
  | nil => simp
  | cons v l ih =>
    have h0 := h 0 (by simp)
    have := ih fun k hk => by simpa using h (k + 1) (by simpa using hk)
    simp only [List.getD_cons_zero] at h0
    rw [List.sum_cons, List.length_cons, Int.natCast_succ, Int.mul_add]; omega

theorem sum_set : ∀ {l : List Int} {k : Nat} {v : Int}, k < l.length → (l.set k v).sum = l.sum - l.getD k 0 + v
  | [], _, _, h => by simp at h
  | a :: l, 0, v, _ => by simp only [List.set_cons_zero, List.sum_cons, List.getD_cons_zero]; omega
  | a :: l, k + 1, v, h => by
    simp only [List.set_cons_succ, List.sum_cons, List.getD_cons_succ]
    rw [sum_set (by simpa using h)]; omega

theorem Inv.turn {T : Tc} {y : Md} {L : Nat} (I : Inv T y L) : y.t < 200 := by
  obtain ⟨X, hX⟩ := I.rows
  have hl : y.a.length = T.F.length := I.sh.2.2.2.1
  have := sum_le (l := y.a) (b := 25) fun k hk => by
    obtain ⟨h1, h2, h3, h4, h5⟩ := hX k (by omega)
    have h7 := pos_le (X k) (i := L + 1) (by have := I.L4; omega)
    omega
  have h1 := I.t
  have h2 := I.K7
  have h3 := I.L4
  omega

end Go.Proofs.Ytbdjcekekhgnkaa
