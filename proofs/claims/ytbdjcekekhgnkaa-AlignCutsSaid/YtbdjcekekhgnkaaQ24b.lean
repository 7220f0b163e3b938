/- align: AlignCuts: the plain law: a turn. -/
import Derived.Test.YtbdjcekekhgnkaaQ24
set_option linter.unusedSimpArgs false
namespace Go.Proofs.Ytbdjcekekhgnkaa
open Ab

theorem getD_set {α : Type} {l : List α} {k j : Nat} {v d : α} (h : k < l.length) : (l.set k v).getD j d = if j = k then v else l.getD j d := by
  simp only [List.getD_eq_getElem?_getD, List.getElem?_set]
  by_cases e : k = j
  · subst e; simp [h]
  · rw [if_neg e, if_neg (fun h => e h.symm)]

theorem getD_takeB {p : List Bool} {m j : Nat} (h : j < m) : (p.take m).getD j false = p.getD j false := by
  simp [List.getD_eq_getElem?_getD, List.getElem?_take, h]

/-- the next state, whatever the aligner does: a way's place is one farther -/
theorem Inv.next {T : Tc} {y : Md} {L : Nat} (I : Inv T y L) {X : Nat → List Int}
    (hX : ∀ k, k < T.F.length → rowAt T k = rowL (X k) ∧ (rowL (X k)).length ≤ 25 ∧ ((pos (X k) L : Nat) : Int) ≤ y.a.getD k 0 ∧ y.a.getD k 0 ≤ ((pos (X k) (L + 1) : Nat) : Int) ∧ (blkd y.x y.n k = true ↔ y.a.getD k 0 = ((pos (X k) (L + 1) : Nat) : Int)))
    {k : Nat} (hk : k < T.F.length) (hlt : y.a.getD k 0 < ((pos (X k) (L + 1) : Nat) : Int)) {x' : Al} (s' : Shape x' y.n T.F.length) (hok : okAl x' = true) (hl : x'.l = y.x.l)
    (hb : ∀ j, j < T.F.length → blkd x' y.n j = if j = k then decide (y.a.getD k 0 + 1 = ((pos (X k) (L + 1) : Nat) : Int)) else blkd y.x y.n j) :
    Inv T { y with x := x', a := y.a.set k (y.a.getD k 0 + 1), t := y.t + 1 } L := by
  obtain ⟨o1, o2, o3, o4, o5, o6, o7, o8, o9, o10, o11, o12, o13⟩ := I.sh
  have ht := I.turn
  have hka : k < y.a.length := by omega
  have ha : ∀ j, (y.a.set k (y.a.getD k 0 + 1)).getD j 0 = if j = k then y.a.getD k 0 + 1 else y.a.getD j 0 := fun j => getD_set hka
  have rows : ∀ j, j < T.F.length → rowAt T j = rowL (X j) ∧ (rowL (X j)).length ≤ 25 ∧ ((pos (X j) L : Nat) : Int) ≤ (y.a.set k (y.a.getD k 0 + 1)).getD j 0 ∧ (y.a.set k (y.a.getD k 0 + 1)).getD j 0 ≤ ((pos (X j) (L + 1) : Nat) : Int) ∧ (blkd x' y.n j = true ↔ (y.a.set k (y.a.getD k 0 + 1)).getD j 0 = ((pos (X j) (L + 1) : Nat) : Int)) := by
    intro j hj
    obtain ⟨h1, h2, h3, h4, h5⟩ := hX j hj
    rw [ha, hb j hj]
    by_cases e : j = k
    · subst e
      simp only [if_true, decide_eq_true_eq]
      exact ⟨h1, h2, by omega, by omega, trivial⟩
    · simp only [if_neg e]
      exact ⟨h1, h2, h3, h4, h5⟩
  refine ⟨⟨o1, o2, o3, by rw [List.length_set]; exact o4, o5, o6, o7, hok, s'.xn, s'.xm, by show 0 ≤ y.t + 1 ∧ y.t + 1 ≤ 400; omega, by rw [hl]; exact o12, fun j hj => ?_⟩, s', by rw [hl]; exact I.l, I.L4, ⟨X, rows⟩, ?_, I.K7⟩
  · obtain ⟨h1, h2, h3, h4, h5⟩ := rows j hj
    have h7 := pos_le (X j) (i := L + 1) (by have := I.L4; omega)
    refine ⟨by rw [h1]; omega, ?_, ?_⟩
    · show 0 ≤ (y.a.set k (y.a.getD k 0 + 1)).getD j 0; omega
    · show (y.a.set k (y.a.getD k 0 + 1)).getD j 0 ≤ _; rw [h1]; omega
  · show y.t + 1 = (y.a.set k (y.a.getD k 0 + 1)).sum + L
    rw [sum_set hka, I.t]; omega



theorem Shape.come {x : Al} {n K : Nat} (s : Shape x n K) (i k : Int) : Shape (x.come i k) n K := by
  have : (x.come i k).p.length = n := by
    rw [← s.p]; simp only [Al.p, Al.come, List.length_take, putB_len]
  exact ⟨this, s.q, s.n1, s.nK, by simp only [Al.come, putB_len]; exact s.c, s.d, s.K16, s.xn, s.xm⟩

theorem Shape.beside {x : Al} {n K : Nat} (s : Shape x n K) (i k : Int) : Shape (x.beside i k) n K := by
  have : (x.beside i k).q.length = K - n := by
    rw [← s.q]; simp only [Al.q, Al.beside, List.length_take, putB_len]
  exact ⟨s.p, this, s.n1, s.nK, s.c, by simp only [Al.beside, putB_len]; exact s.d, s.K16, s.xn, s.xm⟩

theorem Shape.ok {x : Al} {n K : Nat} (s : Shape x n K) : okAl x = true := by
  have h1 := s.c; have h2 := s.d; have h3 := s.xn; have h4 := s.xm; have h5 := s.n1; have h6 := s.nK; have h7 := s.K16
  simp only [okAl, Bool.and_eq_true, decide_eq_true_eq]
  omega

theorem Inv.take {T : Tc} {y : Md} {L : Nat} (I : Inv T y L) {k : Nat} (hk : k < T.F.length) (hm : may T y k = true) {v : Int} (hv : v = (rowAt T k).getD (y.a.getD k 0).toNat 0) :
    (v < 0 → Inv T { y with a := y.a.set k (y.a.getD k 0 + 1), t := y.t + 1 } L) ∧
    (0 ≤ v → (k < y.n → comeE y.x.p y.x.l k v = 0 ∧ Inv T { y with x := y.x.come k v, a := y.a.set k (y.a.getD k 0 + 1), t := y.t + 1 } L) ∧
      (y.n ≤ k → comeE y.x.q y.x.l ((k : Int) - y.n) v = 0 ∧ Inv T { y with x := y.x.beside ((k : Int) - y.n) v, a := y.a.set k (y.a.getD k 0 + 1), t := y.t + 1 } L)) := by
  obtain ⟨X, hX⟩ := I.rows
  obtain ⟨h1, h2, h3, h4, h5⟩ := hX k hk
  have L4 := I.L4
  simp only [may, Bool.and_eq_true, Bool.not_eq_true', decide_eq_true_eq] at hm
  have h6 : y.a.getD k 0 ≠ ((pos (X k) (L + 1) : Nat) : Int) := fun e => by
    have := h5.2 e; rw [hm.1] at this; cases this
  have hlt : y.a.getD k 0 < ((pos (X k) (L + 1) : Nat) : Int) := by omega
  rw [h1, rowL_at (X k) L4 (by omega) (by omega)] at hv
  have s := I.s
  have hsame : ∀ j, j ≠ k → ∀ b : Bool, (if j = k then b else blkd y.x y.n j) = blkd y.x y.n j := fun j e b => if_neg e
  refine ⟨fun hneg => ?_, fun hpos => ?_⟩
  · have hne : ¬ (y.a.getD k 0).toNat + 1 = pos (X k) (L + 1) := fun e => by rw [if_pos e] at hv; omega
    refine I.next hX hk hlt s (s.ok) rfl fun j hj => ?_
    by_cases e : j = k
    · subst e
      rw [if_pos rfl, hm.1]
      exact (decide_eq_false (by omega)).symm
    · rw [if_neg e]
  · have heq : (y.a.getD k 0).toNat + 1 = pos (X k) (L + 1) := by
      apply Classical.byContradiction
      intro e; rw [if_neg e] at hv; omega
    rw [if_pos heq] at hv
    have hw : wr .i64 (v - 1) = y.x.l := by rw [wr_in ⟨by omega, by omega⟩, I.l]; omega
    have hd : decide (y.a.getD k 0 + 1 = ((pos (X k) (L + 1) : Nat) : Int)) = true := decide_eq_true (by omega)
    refine ⟨fun hn => ?_, fun hn => ?_⟩
    · have hb : y.x.p.getD k false = false := by rw [← blkd_in s hn]; exact hm.1
      have hE : comeE y.x.p y.x.l k v = 0 := by
        unfold comeE
        rw [if_neg (by rw [s.p]; omega), if_neg (by rw [Int.toNat_natCast, hb]; simp), if_neg (by rw [hw]; simp)]
      refine ⟨hE, I.next hX hk hlt (s.come k v) (s.come k v).ok rfl fun j hj => ?_⟩
      rw [hd]
      have hc : (y.x.come k v).c = y.x.c.set k true := by simp only [Al.come, putB, hE, if_true, Int.toNat_natCast]
      rcases Nat.lt_or_ge j y.n with hj' | hj'
      · rw [blkd_in (s.come k v) hj', blkd_in s hj']
        have e1 : ∀ c : List Bool, ∀ w : Al, w.c = c → w.n = (y.n : Int) → w.p.getD j false = c.getD j false := by
          rintro _ w rfl hwn
          rw [Al.p, hwn, Int.toNat_natCast, getD_takeB hj']
        rw [e1 _ _ hc s.xn, e1 _ _ rfl s.xn, getD_set (by rw [s.c]; have := s.nK; have := s.K16; omega)]
      · rw [blkd_by (s.come k v) hj' hj, blkd_by s hj' hj, if_neg (by omega)]; rfl
    · have hb : y.x.q.getD (k - y.n) false = false := by rw [← blkd_by s hn hk]; exact hm.1
      have hkn : ((k : Int) - y.n) = ((k - y.n : Nat) : Int) := by omega
      have hE : comeE y.x.q y.x.l ((k : Int) - y.n) v = 0 := by
        unfold comeE
        rw [if_neg (by rw [s.q]; omega), if_neg (by rw [hkn, Int.toNat_natCast, hb]; simp), if_neg (by rw [hw]; simp)]
      refine ⟨hE, I.next hX hk hlt (s.beside _ v) (s.beside _ v).ok rfl fun j hj => ?_⟩
      rw [hd]
      have hc : (y.x.beside ((k : Int) - y.n) v).d = y.x.d.set (k - y.n) true := by simp only [Al.beside, putB, hE, if_true]; rw [hkn, Int.toNat_natCast]
      rcases Nat.lt_or_ge j y.n with hj' | hj'
      · rw [blkd_in (s.beside _ v) hj', blkd_in s hj', if_neg (by omega)]; rfl
      · rw [blkd_by (s.beside _ v) hj' hj, blkd_by s hj' hj]
        have e1 : ∀ c : List Bool, ∀ w : Al, w.d = c → w.m = ((T.F.length : Nat) : Int) - y.n → w.q.getD (j - y.n) false = c.getD (j - y.n) false := by
          rintro _ w rfl hwn
          rw [Al.q, hwn, getD_takeB (by omega)]
        rw [e1 _ _ hc s.xm, e1 _ _ rfl s.xm, getD_set (by rw [s.d]; have := s.nK; have := s.K16; omega)]
        by_cases e : j = k
        · subst e; simp
        · rw [if_neg e, if_neg (by omega)]

theorem Inv.done {T : Tc} {y : Md} {L : Nat} (I : Inv T y L) (h : phaseL y.x.p y.x.q = 3) : y.x.done.l = (L : Int) + 1 ∧ (L + 1 ≠ 5 → Inv T { y with x := y.x.done, t := y.t + 1 } (L + 1)) := by
  have L4 := I.L4
  have s := I.s
  have ht := I.turn
  have hx : y.x.done = ⟨List.replicate 16 false, List.replicate 16 false, y.x.n, y.x.m, wr .i64 (y.x.l + 1)⟩ := by rw [Al.done, if_pos h]
  have hl : y.x.done.l = (L : Int) + 1 := by rw [hx]; show wr .i64 (y.x.l + 1) = _; rw [I.l, wr_in ⟨by omega, by omega⟩]
  refine ⟨hl, fun h5 => ?_⟩
  have hn := s.xn
  have hm := s.xm
  have s' : Shape y.x.done y.n T.F.length := by
    have := s.n1; have := s.nK; have := s.K16
    rw [hx]
    refine ⟨?_, ?_, s.n1, s.nK, by simp, by simp, s.K16, s.xn, s.xm⟩
    · simp only [Al.p, List.length_take, List.length_replicate]; omega
    · simp only [Al.q, List.length_take, List.length_replicate]; omega
  have hrep : ∀ m j : Nat, ((List.replicate 16 false).take m).getD j false = false := fun m j => by
    rw [List.take_replicate, List.getD_eq_getElem?_getD, List.getElem?_replicate]; split <;> rfl
  have hb : ∀ j, j < T.F.length → blkd y.x.done y.n j = false := fun j hj => by
    rcases Nat.lt_or_ge j y.n with hj' | hj'
    · rw [blkd_in s' hj', hx]; exact hrep _ _
    · rw [blkd_by s' hj' hj, hx]; exact hrep _ _
  obtain ⟨X, hX⟩ := I.rows
  obtain ⟨o1, o2, o3, o4, o5, o6, o7, o8, o9, o10, o11, o12, o13⟩ := I.sh
  refine ⟨⟨o1, o2, o3, o4, o5, o6, o7, s'.ok, s'.xn, s'.xm, by show 0 ≤ y.t + 1 ∧ y.t + 1 ≤ 400; omega, by rw [hl]; omega, o13⟩, s', by rw [hl]; omega, by omega, ⟨X, fun k hk => ?_⟩, ?_, I.K7⟩
  · obtain ⟨h1, h2, h3, h4, h5⟩ := hX k hk
    have h6 := h5.1 ((phase_iff s).1 h k hk)
    have h7 := pos_lt (X k) (L + 1)
    refine ⟨h1, h2, ?_, ?_, ?_⟩
    · show _ ≤ y.a.getD k 0; omega
    · show y.a.getD k 0 ≤ _; omega
    · show blkd y.x.done y.n k = true ↔ y.a.getD k 0 = _
      rw [hb k hk]
      exact ⟨fun h => (by cases h), fun h => by omega⟩
  · show y.t + 1 = y.a.sum + ((L + 1 : Nat) : Int)
    rw [I.t]; omega

end Go.Proofs.Ytbdjcekekhgnkaa
