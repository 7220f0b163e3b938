/- align: AlignCuts: a turn. -/
import Derived.Test.YtbdjcekekhgnkaaP24k
import Derived.Test.YtbdjcekekhgnkaaT24t
set_option linter.unusedSimpArgs false
namespace Go.Proofs.Ytbdjcekekhgnkaa
open Ab

theorem okChkB_of {T : Tc} {y : Md} (h : okChk T y) : okChkB T y = true := by classical exact decide_eq_true h
theorem okSyncB_of {T : Tc} {y : Md} (h : okSync T y) : okSyncB T y = true := by classical exact decide_eq_true h

/-- the next state -/
def NextOk (T : Tc) (y : Md) (Q : State → Prop) : Prop :=
  ∀ x' a' t' L', Inv T { y with x := x', a := a', t := t' } L' → t' = y.t + 1 → Q (.normal, mkT 251 (Md.ins { y with x := x', a := a', t := t' }), hp 0 (Md.bs { y with x := x', a := a', t := t' }))

section
variable {ra : Nat → Nat → Nat × Nat} {base : Nat}

theorem tu_nil {T : Tc} (h : Ways T) (y : Md) {L : Nat} (I : Inv T y L) (hO : y.O = .nils) {Q : State → Prop} (qn : NextOk T y Q) (qr : Q (.ret, mkT 251 [(6, .bool true)], [])) :
    Takes Try.prog (tabF T) ra base 0 (codeOf 4 (false :: pTu)) (mkT 251 y.ins) (hp 0 y.bs) Q := by
  have hE := tabF_plain T
  have hW := W_ok (E := tabF T) (ra := ra) (base := base) (S6_ok h) noL_ok
  have ht := I.turn
  have hsh := I.sh
  have hls : y.ls.length = T.F.length := by rw [hsh.2.1, List.length_map]
  have hal : y.a.length = T.F.length := hsh.2.2.2.1
  have hK : T.F.length ≤ 20 := hsh.2.2.2.2.1
  have ht0 : 0 ≤ y.t := hsh.2.2.2.2.2.2.2.2.2.2.1.1
  have L4 := I.L4
  have hw : wr .i64 (y.t + 1) = y.t + 1 := wr_in ⟨by omega, by omega⟩
  have hl : wr .i64 (y.x.l + 1) = y.x.l + 1 := by rw [I.l]; exact wr_in ⟨by omega, by omega⟩
  have hlL := I.l
  have hok := I.s.ok
  have hok1 := hok
  simp only [okAl, Bool.and_eq_true, decide_eq_true_eq] at hok1
  obtain ⟨g1, g2, g3, g4, g5, g6⟩ := hok1
  have hchk := fun hp => I.check hp (w := wr .i64 (y.x.l + 1)) (by rw [hl, hlL])
  have hsync := fun hp => I.sync hp
  have hdone := fun hp => I.done hp
  have hshd : phaseL y.x.p y.x.q = 3 → okAl y.x.done = true := fun hp => by
    have hx : y.x.done = ⟨List.replicate 16 false, List.replicate 16 false, y.x.n, y.x.m, wr .i64 (y.x.l + 1)⟩ := by rw [Al.done, if_pos hp]
    rw [hx]; simp only [okAl, List.length_replicate, Bool.and_eq_true, decide_eq_true_eq]; exact ⟨trivial, trivial, g3, g4, g5, g6⟩
  obtain ⟨n, O, t, x, a, ls, fs, w⟩ := y
  simp only at hO hls hal ht ht0 hw hl hlL hok g1 g2 g3 g4 g5 g6 hchk hsync hdone hshd
  subst hO
  refine takes_of_treeQ hE hW (TC_ok h) (f := 4) (.inr (by kernel_rfl)) (hp_below _) (tu_n T n t x a ls fs w) ?_
  by_cases hp : phaseL x.p x.q = 3
  · have hc := okChkB_of (hchk hp)
    obtain ⟨d1, d2⟩ := hdone hp
    have hok2 := hshd hp
    have hok3 := hok2
    simp only [okAl, Bool.and_eq_true, decide_eq_true_eq] at hok3
    obtain ⟨k1, k2, k3, k4, k5, k6⟩ := hok3
    have ht4 : t < 400 := by omega
    have hd : x.done.l = x.l + 1 := by rw [d1, hlL]
    rw [hl] at hc
    have hsc : sameCap (some a.length) (some a.length) = true := by simp [sameCap]
    simp only [TreeQ.holds, ht4, decide_true, Bool.and_self, Bool.and_true, Bool.true_and, true_and, and_true, decide_eq_true_eq, decide_eq_false_iff_not, Bool.and_eq_true, Bool.not_eq_true', Bool.not_eq_false', hp, hl, hc, hd, hw, hsc, g1, g2, g3, g4, g5, g6, k1, k2, k3, k4, k5, k6, not_true_eq_false, true_implies, false_implies, forall_const, if_true, implies_true]
    refine ⟨⟨⟨fun hh => (by cases hh), fun _ => qr, fun h5 => ?_⟩, fun hh => (by cases hh)⟩, fun hh => (by cases hh)⟩
    have e := qn x.done a (t + 1) (L + 1) (d2 (by omega)) rfl
    simp only [Md.bs, Al.blk, hd] at e
    exact e
  · have hs := okSyncB_of (hsync hp)
    have hs' : okSyncB T ⟨n, .nils, t, x, a, ls, fs, 0⟩ = true := hs
    have ht4 : t < 400 := by omega
    have hsc : sameCap (some a.length) (some a.length) = true := by simp [sameCap]
    simp only [TreeQ.holds, ht4, decide_true, Bool.and_self, Bool.and_true, Bool.true_and, true_and, and_true, decide_eq_true_eq, decide_eq_false_iff_not, Bool.and_eq_true, Bool.not_eq_true', Bool.not_eq_false', hp, hs', hw, hsc, g1, g2, g3, g4, g5, g6, not_true_eq_false, not_false_eq_true, true_implies, false_implies, forall_const, implies_true, Nat.zero_add]
    refine ⟨fun ms hms => ?_, fun hh => (by cases hh)⟩
    obtain ⟨m1, m2, m3⟩ := hms
    obtain ⟨p1, p2, p3⟩ := m3 0 m1
    obtain ⟨k, hk⟩ : ∃ k : Nat, ms.getD 0 0 = (k : Int) := ⟨_, (Int.toNat_of_nonneg p1).symm⟩
    rw [hk] at p1 p2 p3 ⊢
    rw [Int.toNat_natCast] at p3
    have hkK : k < T.F.length := by omega
    obtain ⟨_, r1, r2, r3, r4, r5⟩ := okShape_at hsh hkK
    simp only at r1 r2 r4 r5
    have hmay : a.getD k 0 < ((rowAt T k).length : Int) := by
      simp only [may, Bool.and_eq_true, decide_eq_true_eq] at p3; exact p3.2
    obtain ⟨t1, t2⟩ := I.take hkK p3 (v := (rowAt T k).getD (a.getD k 0).toNat 0) rfl
    simp only at t1 t2
    have hrow : T.F.getD k [] = rowAt T k := rfl
    simp only [Int.toNat_natCast, hrow, r1, r2]
    refine ⟨fun hh => absurd hh (by omega), fun _ => ⟨by omega, by omega, ?_⟩⟩
    (
      have hn20 : n ≤ T.F.length := hsh.2.2.2.2.2.2.1
      have hwa : wr .i64 (a.getD k 0 + 1) = a.getD k 0 + 1 := wr_in ⟨by omega, by omega⟩
      have hwk : ¬ (k : Int) < n → wr .i64 ((k : Int) - n) = (k : Int) - n := fun _ => wr_in ⟨by omega, by omega⟩
      rw [hwa]
      refine ⟨⟨by omega, by omega⟩, by omega, fun hh => (by cases hh), fun _ => ⟨⟨by omega, by omega⟩, by omega, ⟨by omega, by omega⟩, by omega, ⟨by omega, by omega⟩, by omega, ⟨by omega, by omega⟩, by omega, fun hv => ?_, fun hv => ⟨fun hn => ⟨hok, fun hh => absurd ((t2 (by omega)).1 (by omega)).1 hh, fun _ => ?_⟩, fun hn => ⟨hok, fun hh => ?_, fun _ => ?_⟩⟩⟩⟩
      · have e := qn x (a.set k (a.getD k 0 + 1)) (t + 1) L (t1 hv) rfl
        simp only [Md.ins, Md.bs, elI, List.length_set] at e
        exact e
      · have e := qn (x.come k ((rowAt T k).getD (a.getD k 0).toNat 0)) (a.set k (a.getD k 0 + 1)) (t + 1) L ((t2 (by omega)).1 (by omega)).2 rfl
        simp only [Md.ins, Md.bs, elI, List.length_set] at e
        exact e
      · rw [hwk hn] at hh
        exact absurd ((t2 (by omega)).2 (by omega)).1 hh
      · have e := qn (x.beside ((k : Int) - n) ((rowAt T k).getD (a.getD k 0).toNat 0)) (a.set k (a.getD k 0 + 1)) (t + 1) L ((t2 (by omega)).2 (by omega)).2 rfl
        simp only [Md.ins, Md.bs, elI, List.length_set] at e
        rw [hwk hn]
        exact e)
theorem tu_ro {T : Tc} (h : Ways T) (y : Md) {L : Nat} (I : Inv T y L) {q : Nat} (hO : y.O = .slice (.ro 4 0 0 0) q none) (hq : q ≤ T.o.length) {Q : State → Prop} (qn : NextOk T y Q) (qr : Q (.ret, mkT 251 [(6, .bool true)], [])) :
    Takes Try.prog (tabF T) ra base 0 (codeOf 4 (false :: pTu)) (mkT 251 y.ins) (hp 0 y.bs) Q := by
  have hE := tabF_plain T
  have hW := W_ok (E := tabF T) (ra := ra) (base := base) (S6_ok h) noL_ok
  have ht := I.turn
  have hsh := I.sh
  have hls : y.ls.length = T.F.length := by rw [hsh.2.1, List.length_map]
  have hal : y.a.length = T.F.length := hsh.2.2.2.1
  have hK : T.F.length ≤ 20 := hsh.2.2.2.2.1
  have ht0 : 0 ≤ y.t := hsh.2.2.2.2.2.2.2.2.2.2.1.1
  have L4 := I.L4
  have hw : wr .i64 (y.t + 1) = y.t + 1 := wr_in ⟨by omega, by omega⟩
  have hl : wr .i64 (y.x.l + 1) = y.x.l + 1 := by rw [I.l]; exact wr_in ⟨by omega, by omega⟩
  have hlL := I.l
  have hok := I.s.ok
  have hok1 := hok
  simp only [okAl, Bool.and_eq_true, decide_eq_true_eq] at hok1
  obtain ⟨g1, g2, g3, g4, g5, g6⟩ := hok1
  have hchk := fun hp => I.check hp (w := wr .i64 (y.x.l + 1)) (by rw [hl, hlL])
  have hsync := fun hp => I.sync hp
  have hdone := fun hp => I.done hp
  have hshd : phaseL y.x.p y.x.q = 3 → okAl y.x.done = true := fun hp => by
    have hx : y.x.done = ⟨List.replicate 16 false, List.replicate 16 false, y.x.n, y.x.m, wr .i64 (y.x.l + 1)⟩ := by rw [Al.done, if_pos hp]
    rw [hx]; simp only [okAl, List.length_replicate, Bool.and_eq_true, decide_eq_true_eq]; exact ⟨trivial, trivial, g3, g4, g5, g6⟩
  obtain ⟨n, O, t, x, a, ls, fs, w⟩ := y
  simp only at hO hls hal ht ht0 hw hl hlL hok g1 g2 g3 g4 g5 g6 hchk hsync hdone hshd
  subst hO
  refine takes_of_treeQ hE hW (TC_ok h) (f := 4) (.inr (by kernel_rfl)) (hp_below _) (tu_s T n q t x a ls fs w) ?_
  by_cases hp : phaseL x.p x.q = 3
  · have hc := okChkB_of (hchk hp)
    obtain ⟨d1, d2⟩ := hdone hp
    have hok2 := hshd hp
    have hok3 := hok2
    simp only [okAl, Bool.and_eq_true, decide_eq_true_eq] at hok3
    obtain ⟨k1, k2, k3, k4, k5, k6⟩ := hok3
    have ht4 : t < 400 := by omega
    have hd : x.done.l = x.l + 1 := by rw [d1, hlL]
    rw [hl] at hc
    have hsc : sameCap (some a.length) (some a.length) = true := by simp [sameCap]
    simp only [TreeQ.holds, ht4, decide_true, Bool.and_self, Bool.and_true, Bool.true_and, true_and, and_true, decide_eq_true_eq, decide_eq_false_iff_not, Bool.and_eq_true, Bool.not_eq_true', Bool.not_eq_false', hp, hl, hc, hd, hw, hsc, g1, g2, g3, g4, g5, g6, k1, k2, k3, k4, k5, k6, not_true_eq_false, true_implies, false_implies, forall_const, if_true, implies_true]
    refine ⟨⟨⟨fun hh => (by cases hh), fun _ => qr, fun h5 => ?_⟩, fun hh => (by cases hh)⟩, fun hh => (by cases hh)⟩
    have e := qn x.done a (t + 1) (L + 1) (d2 (by omega)) rfl
    simp only [Md.bs, Al.blk, hd] at e
    exact e
  · have hs := okSyncB_of (hsync hp)
    have hs' : okSyncB T ⟨n, .slice (.ro 4 0 0 0) q none, t, x, a, ls, fs, 0⟩ = true := hs
    have ht4 : t < 400 := by omega
    have hsc : sameCap (some a.length) (some a.length) = true := by simp [sameCap]
    simp only [TreeQ.holds, ht4, decide_true, Bool.and_self, Bool.and_true, Bool.true_and, true_and, and_true, decide_eq_true_eq, decide_eq_false_iff_not, Bool.and_eq_true, Bool.not_eq_true', Bool.not_eq_false', hp, hs', hw, hsc, g1, g2, g3, g4, g5, g6, not_true_eq_false, not_false_eq_true, true_implies, false_implies, forall_const, implies_true, Nat.zero_add]
    refine ⟨fun ms hms => ?_, fun hh => (by cases hh)⟩
    obtain ⟨m1, m2, m3⟩ := hms
    refine ⟨fun hh => absurd hh (by omega), fun _ => ⟨by omega, by omega, ?_⟩⟩
    refine ⟨fun hq0 => ?_, fun _ => ?_⟩
    · have hi0 : 0 ≤ Int.tmod t (q : Int) := Int.tmod_nonneg _ ht0
      have hi1 : Int.tmod t (q : Int) < (q : Int) := Int.tmod_lt_of_pos _ hq0
      have hov : 0 ≤ T.o.getD (Int.tmod t (q : Int)).toNat 0 ∧ T.o.getD (Int.tmod t (q : Int)).toNat 0 < 256 := by
        rw [getD_at (by omega)]; exact h.t.2.2 _ (List.getElem_mem _)
      have how : wr .i64 (T.o.getD (Int.tmod t (q : Int)).toNat 0) = T.o.getD (Int.tmod t (q : Int)).toNat 0 := wr_in ⟨by omega, by omega⟩
      rw [how]
      have hj0 : 0 ≤ Int.tmod (T.o.getD (Int.tmod t (q : Int)).toNat 0) (ms.length : Int) := Int.tmod_nonneg _ hov.1
      have hj1 : Int.tmod (T.o.getD (Int.tmod t (q : Int)).toNat 0) (ms.length : Int) < (ms.length : Int) := Int.tmod_lt_of_pos _ (by omega)
      generalize Int.tmod (T.o.getD (Int.tmod t (q : Int)).toNat 0) (ms.length : Int) = jj at hj0 hj1 ⊢
      refine ⟨by omega, ⟨hi0, hi1⟩, by omega, by omega, ⟨hj0, hj1⟩, by omega, ?_⟩
      obtain ⟨p1, p2, p3⟩ := m3 jj.toNat (by omega)
      (
        obtain ⟨k, hk⟩ : ∃ k : Nat, ms.getD jj.toNat 0 = (k : Int) := ⟨_, (Int.toNat_of_nonneg p1).symm⟩
        rw [hk] at p1 p2 p3 ⊢
        rw [Int.toNat_natCast] at p3
        have hkK : k < T.F.length := by omega
        obtain ⟨_, r1, r2, r3, r4, r5⟩ := okShape_at hsh hkK
        simp only at r1 r2 r4 r5
        have hmay : a.getD k 0 < ((rowAt T k).length : Int) := by
          simp only [may, Bool.and_eq_true, decide_eq_true_eq] at p3; exact p3.2
        obtain ⟨t1, t2⟩ := I.take hkK p3 (v := (rowAt T k).getD (a.getD k 0).toNat 0) rfl
        simp only at t1 t2
        have hrow : T.F.getD k [] = rowAt T k := rfl
        simp only [Int.toNat_natCast, hrow, r1, r2]
        (
          have hn20 : n ≤ T.F.length := hsh.2.2.2.2.2.2.1
          have hwa : wr .i64 (a.getD k 0 + 1) = a.getD k 0 + 1 := wr_in ⟨by omega, by omega⟩
          have hwk : ¬ (k : Int) < n → wr .i64 ((k : Int) - n) = (k : Int) - n := fun _ => wr_in ⟨by omega, by omega⟩
          rw [hwa]
          refine ⟨⟨by omega, by omega⟩, by omega, fun hh => (by cases hh), fun _ => ⟨⟨by omega, by omega⟩, by omega, ⟨by omega, by omega⟩, by omega, ⟨by omega, by omega⟩, by omega, ⟨by omega, by omega⟩, by omega, fun hv => ?_, fun hv => ⟨fun hn => ⟨hok, fun hh => absurd ((t2 (by omega)).1 (by omega)).1 hh, fun _ => ?_⟩, fun hn => ⟨hok, fun hh => ?_, fun _ => ?_⟩⟩⟩⟩
          · have e := qn x (a.set k (a.getD k 0 + 1)) (t + 1) L (t1 hv) rfl
            simp only [Md.ins, Md.bs, elI, List.length_set] at e
            exact e
          · have e := qn (x.come k ((rowAt T k).getD (a.getD k 0).toNat 0)) (a.set k (a.getD k 0 + 1)) (t + 1) L ((t2 (by omega)).1 (by omega)).2 rfl
            simp only [Md.ins, Md.bs, elI, List.length_set] at e
            exact e
          · rw [hwk hn] at hh
            exact absurd ((t2 (by omega)).2 (by omega)).1 hh
          · have e := qn (x.beside ((k : Int) - n) ((rowAt T k).getD (a.getD k 0).toNat 0)) (a.set k (a.getD k 0 + 1)) (t + 1) L ((t2 (by omega)).2 (by omega)).2 rfl
            simp only [Md.ins, Md.bs, elI, List.length_set] at e
            rw [hwk hn]
            exact e))
    · obtain ⟨p1, p2, p3⟩ := m3 0 m1
      (
        obtain ⟨k, hk⟩ : ∃ k : Nat, ms.getD 0 0 = (k : Int) := ⟨_, (Int.toNat_of_nonneg p1).symm⟩
        rw [hk] at p1 p2 p3 ⊢
        rw [Int.toNat_natCast] at p3
        have hkK : k < T.F.length := by omega
        obtain ⟨_, r1, r2, r3, r4, r5⟩ := okShape_at hsh hkK
        simp only at r1 r2 r4 r5
        have hmay : a.getD k 0 < ((rowAt T k).length : Int) := by
          simp only [may, Bool.and_eq_true, decide_eq_true_eq] at p3; exact p3.2
        obtain ⟨t1, t2⟩ := I.take hkK p3 (v := (rowAt T k).getD (a.getD k 0).toNat 0) rfl
        simp only at t1 t2
        have hrow : T.F.getD k [] = rowAt T k := rfl
        simp only [Int.toNat_natCast, hrow, r1, r2]
        (
          have hn20 : n ≤ T.F.length := hsh.2.2.2.2.2.2.1
          have hwa : wr .i64 (a.getD k 0 + 1) = a.getD k 0 + 1 := wr_in ⟨by omega, by omega⟩
          have hwk : ¬ (k : Int) < n → wr .i64 ((k : Int) - n) = (k : Int) - n := fun _ => wr_in ⟨by omega, by omega⟩
          rw [hwa]
          refine ⟨⟨by omega, by omega⟩, by omega, fun hh => (by cases hh), fun _ => ⟨⟨by omega, by omega⟩, by omega, ⟨by omega, by omega⟩, by omega, ⟨by omega, by omega⟩, by omega, ⟨by omega, by omega⟩, by omega, fun hv => ?_, fun hv => ⟨fun hn => ⟨hok, fun hh => absurd ((t2 (by omega)).1 (by omega)).1 hh, fun _ => ?_⟩, fun hn => ⟨hok, fun hh => ?_, fun _ => ?_⟩⟩⟩⟩
          · have e := qn x (a.set k (a.getD k 0 + 1)) (t + 1) L (t1 hv) rfl
            simp only [Md.ins, Md.bs, elI, List.length_set] at e
            exact e
          · have e := qn (x.come k ((rowAt T k).getD (a.getD k 0).toNat 0)) (a.set k (a.getD k 0 + 1)) (t + 1) L ((t2 (by omega)).1 (by omega)).2 rfl
            simp only [Md.ins, Md.bs, elI, List.length_set] at e
            exact e
          · rw [hwk hn] at hh
            exact absurd ((t2 (by omega)).2 (by omega)).1 hh
          · have e := qn (x.beside ((k : Int) - n) ((rowAt T k).getD (a.getD k 0).toNat 0)) (a.set k (a.getD k 0 + 1)) (t + 1) L ((t2 (by omega)).2 (by omega)).2 rfl
            simp only [Md.ins, Md.bs, elI, List.length_set] at e
            rw [hwk hn]
            exact e))
end

end Go.Proofs.Ytbdjcekekhgnkaa
