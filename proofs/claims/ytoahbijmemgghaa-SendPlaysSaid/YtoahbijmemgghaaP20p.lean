/- send: SendPlays: an act: both stay alike. -/
import Derived.Test.YtoahbijmemgghaaT20p
import Derived.Test.YtoahbijmemgghaaP20s
set_option linter.unusedSimpArgs false
namespace Go.Proofs.Ytoahbijmemgghaa
open Ab

section
variable {E : Nat → Nat → Seg} {ra : Nat → Nat → Nat × Nat} {base : Nat}

theorem like_z {i k b m : Int} : Pr.like i (.z k b m) = true ↔ newOk k = true ∧ okN 0 k b m = true ∧ b = 0 ∧ m ≤ 2000 := by
  simp only [Pr.like, Bool.and_eq_true, decide_eq_true_eq]
theorem like_q {i : Int} {x y : Sd} : Pr.like i (.q x y) = true ↔ newOk x.k = true ∧ okSd x = true ∧ okSd y = true ∧ y.c = none ∧ x.n = y.n ∧ x.k = y.k ∧ x.b = y.b ∧ x.m = y.m ∧ x.l = y.l ∧ x.b + x.n ≤ i ∧ x.m ≤ 2000 ∧ i ≤ 100 ∧ (x.n : Int) ≤ x.k := by
  simp only [Pr.like, Bool.and_eq_true, decide_eq_true_eq]
theorem newOk_iff' {n : Int} : newOk n = true ↔ 1 ≤ n ∧ n ≤ 16 := by simp only [newOk, Bool.and_eq_true, decide_eq_true_eq]

theorem like_up {i : Int} {p : Pr} (h : p.like i = true) (hi : i < 100) : p.like (i + 1) = true := by
  cases p with
  | z k b m => exact h
  | q x y =>
    obtain ⟨h1, h2, h3, h4, h5, h6, h7, h8, h9, h10, h11, h12, h13⟩ := like_q.1 h
    exact like_q.2 ⟨h1, h2, h3, h4, h5, h6, h7, h8, h9, by omega, h11, by omega, h13⟩

theorem new_l (l : List Int) (c : Option Nat) (k b m : Int) : Sd.l ⟨l, 0, l.length, c, k, b, m⟩ = l := by simp [Sd.l]

/-- a message is pushed at both -/
theorem like_push {i : Int} {ts us : List Int} {o p n : Nat} {c : Option Nat} {k b m t : Int} (h : Pr.like i (.q ⟨ts, o, n, c, k, b, m⟩ ⟨us, p, n, none, k, b, m⟩) = true) (hi : i < 100) (hnk : (n : Int) < k) :
    Pr.like (i + 1) (.q ⟨List.take n (List.drop o ts) ++ [t], 0, n + 1, none, k, b, m⟩ ⟨List.take n (List.drop p us) ++ [t], 0, n + 1, none, k, b, m⟩) = true := by
  obtain ⟨h1, h2, h3, _, _, _, _, _, h9, h10, h11, h12, _⟩ := like_q.1 h
  obtain ⟨⟨a1, a2, a3, a4, a5, a6, a7⟩, a8, a9⟩ := okSd_iff.1 h2
  obtain ⟨_, b8, _⟩ := okSd_iff.1 h3
  obtain ⟨g1, g2⟩ := newOk_iff'.1 h1
  simp only at a1 a2 a3 a4 a5 a6 a7 a8 b8 h10 h11 g1 g2
  have h9 : List.take n (List.drop o ts) = List.take n (List.drop p us) := h9
  have e1 : (List.take n (List.drop o ts) ++ [t]).length = n + 1 := by simp; omega
  have e2 : (List.take n (List.drop p us) ++ [t]).length = n + 1 := by simp; omega
  have k1 : okSd ⟨List.take n (List.drop o ts) ++ [t], 0, n + 1, none, k, b, m⟩ = true := okSd_iff.2 ⟨⟨by show n + 1 ≤ 1000; omega, a2, a3, a4, a5, a6, a7⟩, by show 0 + (n + 1) ≤ _; rw [e1]; omega, .inl rfl⟩
  have k2 : okSd ⟨List.take n (List.drop p us) ++ [t], 0, n + 1, none, k, b, m⟩ = true := okSd_iff.2 ⟨⟨by show n + 1 ≤ 1000; omega, a2, a3, a4, a5, a6, a7⟩, by show 0 + (n + 1) ≤ _; rw [e2]; omega, .inl rfl⟩
  refine like_q.2 ⟨h1, k1, k2, rfl, rfl, rfl, rfl, rfl, ?_, ?_, h11, by omega, by show ((n + 1 : Nat) : Int) ≤ k; omega⟩
  · show List.take (n + 1) (List.drop 0 _) = List.take (n + 1) (List.drop 0 _)
    rw [h9]
  · show b + ((n + 1 : Nat) : Int) ≤ i + 1
    omega

theorem rack_none {y : Sd} (hc : y.c = none) (i r : Int) : y.rack i r = { y.ack i r with c := none } := by
  by_cases hb : badA y.n y.k y.b i r = true
  · rw [rbad_q hb, ack_bad hb, ← hc]
  · rw [rgood_q hb, ack_good hb]

theorem okSd_none {y : Sd} (h : okSd y = true) : okSd { y with c := none } = true := by
  obtain ⟨h1, h2, _⟩ := okSd_iff.1 h
  exact okSd_iff.2 ⟨h1, h2, .inl rfl⟩

/-- an answer comes to both -/
theorem like_ack {i : Int} {x y : Sd} (h : Pr.like i (.q x y) = true) {a r : Int} (ha : 0 ≤ a) : ackE x.n x.k x.b a r = ackE y.n y.k y.b a r ∧ Pr.like i (.q (x.ack a r) (y.rack a r)) = true := by
  obtain ⟨h1, h2, h3, h4, h5, h6, h7, h8, h9, h10, h11, h12, h13⟩ := like_q.1 h
  refine ⟨by rw [h5, h6, h7], ?_⟩
  obtain ⟨⟨a1, a2, a3, a4, a5, a6, a7⟩, a8, a9⟩ := okSd_iff.1 h2
  obtain ⟨g1, g2⟩ := newOk_iff'.1 h1
  have A := (After.refl h2 (by omega)).ack (i := a) (r := r) (by omega) ha
  have B := (After.refl h3 (by omega)).ack (i := a) (r := r) (by omega) ha
  have hb : badA x.n x.k x.b a r = badA y.n y.k y.b a r := by rw [h5, h6, h7]
  have A' := (After.refl h2 (by omega)).b' a r
  have B' := (After.refl h3 (by omega)).b' a r
  rw [rack_none h4]
  have eb : (x.ack a r).b = (y.ack a r).b := by rw [A'.1, B'.1, hb, h7]
  have em : (x.ack a r).m = (y.ack a r).m := by rw [A'.2, B'.2, hb, h8]
  have ek : (x.ack a r).k = (y.ack a r).k := by rw [A.k, B.k, h6]
  have en : (x.ack a r).n = (y.ack a r).n := by have := A.e; have := B.e; omega
  have el : (x.ack a r).l = (y.ack a r).l := by rw [A.l, B.l, eb, h7, h9]
  have mb : (x.ack a r).m ≤ 2000 := by
    rw [A'.2]
    by_cases hq : badA x.n x.k x.b a r = true
    · rw [hq]; exact h11
    · have hq' : ¬ (x.b + (x.n : Int) < a ∨ r < 0 ∨ x.k < r) := fun hh => hq (badA_iff.2 hh)
      rw [fB, if_neg hq, maxI]; split <;> omega
  refine like_q.2 ⟨by rw [A.k]; exact h1, A.ok, okSd_none B.ok, rfl, en, ek, eb, em, el, ?_, mb, h12, ?_⟩
  · have := A.e
    omega
  · have := A.e
    have := A.b
    have := A.k
    omega

theorem like_zack {i k b m : Int} (h : Pr.like i (.z k b m) = true) {a r : Int} (ha : 0 ≤ a) : Pr.like i (.z k b (fB (badA 0 k b a r) m (a + r))) = true := by
  obtain ⟨h1, h2, h3, h4⟩ := like_z.1 h
  obtain ⟨g1, g2⟩ := newOk_iff'.1 h1
  obtain ⟨a1, a2, a3, a4, a5, a6, a7⟩ := okN_iff.1 h2
  have : 0 ≤ fB (badA 0 k b a r) m (a + r) ∧ fB (badA 0 k b a r) m (a + r) ≤ 2000 := by
    by_cases hq : badA 0 k b a r = true
    · rw [hq]; exact ⟨a6, h4⟩
    · have hq' : ¬ (b + ((0 : Nat) : Int) < a ∨ r < 0 ∨ k < r) := fun hh => hq (badA_iff.2 hh)
      rw [fB, if_neg hq, maxI]; split <;> omega
  exact like_z.2 ⟨h1, okN_iff.2 ⟨a1, a2, a3, a4, a5, this.1, by omega⟩, h3, this.2⟩

theorem push_takes (hE : Plain E) (y : Rd) (h : pushD.pre y = true) : Takes Try.prog E ra base 0 (codeOf 3 pPU) (mkT 199 (pushD.ins y)) (hp 0 (pushD.blks y)) fun z => PostL 199 y z pushD.alts := by
  have hS := S3_ok (E := E) (ra := ra) (base := base) hE
  obtain ⟨⟨v, ⟨za, zb⟩, j, i⟩, p⟩ := y
  simp only [pushD, Bool.and_eq_true, decide_eq_true_eq] at h
  obtain ⟨hl, hi0, hi⟩ := h
  cases p with
  | z k b m =>
    obtain ⟨h1, h2, h3, h4⟩ := like_z.1 hl
    obtain ⟨g1, g2⟩ := newOk_iff'.1 h1
    obtain ⟨a1, a2, a3, a4, a5, a6, a7⟩ := okN_iff.1 h2
    refine takes_of_tree hE (W_ok hS noL_ok) (f := 3) (.inr (by kernel_rfl)) (hp_below _) (push_rz E v za zb j i k b m) ?_
    have o1 : Sx.ok (.z k b m) = true := h2
    have e1 : ¬ (Sx.k (.z k b m) - ((Sx.n (.z k b m) : Nat) : Int) = 0) := by show ¬ (k - ((0 : Nat) : Int) = 0); omega
    have e2 : ¬ (k ≤ 0) := by omega
    simp only [Tree.holds, decide_true, Bool.and_self, Bool.and_true, Bool.true_and, true_and, o1, e1, e2, decide_eq_true_eq, decide_eq_false_iff_not, false_implies, not_false_eq_true, true_implies, forall_const]
    refine .inr ⟨⟨⟨[i], 0, 1, none, k, b, m⟩, ⟨[i], 0, 1, none, k, b, m⟩⟩, ?_, rfl⟩
    have k1 : okSd ⟨[i], 0, 1, none, k, b, m⟩ = true := okSd_iff.2 ⟨⟨by show 1 ≤ 1000; decide, a2, a3, a4, a5, a6, a7⟩, Nat.le_refl _, .inl rfl⟩
    exact like_q.2 ⟨h1, k1, k1, rfl, rfl, rfl, rfl, rfl, rfl, by show b + ((1 : Nat) : Int) ≤ i + 1; omega, h4, by show i + 1 ≤ 100; omega, by show ((1 : Nat) : Int) ≤ k; omega⟩
  | q x y =>
    obtain ⟨ts, o, n, c, k, b, m⟩ := x
    obtain ⟨us, p, n', c', k', b', m'⟩ := y
    obtain ⟨h1, h2, h3, h4, h5, h6, h7, h8, h9, h10, h11, h12, h13⟩ := like_q.1 hl
    simp only at h4 h5 h6 h7 h8 h10 h11 h13
    subst h4; subst h5; subst h6; subst h7; subst h8
    obtain ⟨⟨a1, a2, a3, a4, a5, a6, a7⟩, a8, a9⟩ := okSd_iff.1 h2
    obtain ⟨_, b8, _⟩ := okSd_iff.1 h3
    obtain ⟨g1, g2⟩ := newOk_iff'.1 h1
    simp only at a1 a2 a3 a4 a5 a6 a7 a8 a9 b8 g1 g2
    have lp := fun (t : Int) (hnk : (n : Int) < k) => like_push (t := t) hl hi hnk
    have lu := like_up hl hi
    have o1 : Sx.ok (.q ⟨ts, o, n, c, k, b, m⟩) = true := h2
    have e1 : Sx.k (.q ⟨ts, o, n, c, k, b, m⟩) - ((Sx.n (.q ⟨ts, o, n, c, k, b, m⟩) : Nat) : Int) = 0 ↔ k - (n : Int) = 0 := Iff.rfl
    have f1 := Qp_eq ts o n i a8
    have f2 : Qp2 us p n i = _ := (Qp2_eq us p n i).trans (Qp_eq us p n i b8)
    by_cases hn : 0 < n
    · rcases a9 with rfl | rfl
      · refine takes_of_tree hE (W_ok hS noL_ok) (f := 3) (.inr (by kernel_rfl)) (hp_below _) (push_rq E v za zb j i ts us o p n k b m) ?_
        simp only [Tree.holds, decide_true, Bool.and_self, Bool.and_true, Bool.true_and, true_and, qSame_self, cap_self, o1, e1, f1, f2, decide_eq_true_eq, decide_eq_false_iff_not, Nat.zero_add]
        have hbl : Nat.ble n 0 = false := by cases hh : Nat.ble n 0 with
          | false => rfl
          | true => exact absurd (Nat.le_of_ble_eq_true hh) (by omega)
        exact ⟨fun q => ⟨fun _ => .inr ⟨⟨⟨ts, o, n, none, k, b, m⟩, ⟨us, p, n, none, k, b, m⟩⟩, lu, rfl⟩, fun q2 => absurd q2 (by omega)⟩, fun q => ⟨by omega, a8, fun q2 => absurd q2 (by omega), fun _ => ⟨hbl, by omega, b8, by omega, by omega, .inr ⟨⟨_, _⟩, lp i (by omega), rfl⟩⟩⟩⟩
      · refine takes_of_tree hE (W_ok hS noL_ok) (f := 3) (.inr (by kernel_rfl)) (hp_below _) (push_rc E v za zb j i ts us o p n k b m) ?_
        simp only [Tree.holds, decide_true, Bool.and_self, Bool.and_true, Bool.true_and, true_and, qSame_self, cap_self, o1, e1, f1, f2, decide_eq_true_eq, decide_eq_false_iff_not, Nat.zero_add]
        have hbl : Nat.ble n 0 = false := by cases hh : Nat.ble n 0 with
          | false => rfl
          | true => exact absurd (Nat.le_of_ble_eq_true hh) (by omega)
        have hbn : Nat.ble (n + 1) n = false := by cases hh : Nat.ble (n + 1) n with
          | false => rfl
          | true => exact absurd (Nat.le_of_ble_eq_true hh) (by omega)
        exact ⟨fun q => ⟨fun _ => .inr ⟨⟨⟨ts, o, n, some n, k, b, m⟩, ⟨us, p, n, none, k, b, m⟩⟩, lu, rfl⟩, fun q2 => absurd q2 (by omega)⟩, fun q => ⟨hbn, by omega, a8, fun q2 => absurd q2 (by omega), fun _ => ⟨hbl, by omega, b8, by omega, by omega, .inr ⟨⟨_, _⟩, lp i (by omega), rfl⟩⟩⟩⟩
    · have hn : n = 0 := by omega
      subst hn
      rcases a9 with rfl | rfl
      · refine takes_of_tree hE (W_ok hS noL_ok) (f := 3) (.inr (by kernel_rfl)) (hp_below _) (push_rq0 E v za zb j i ts us o p k b m) ?_
        simp only [Tree.holds, decide_true, Bool.and_self, Bool.and_true, Bool.true_and, true_and, qSame_self, cap_self, o1, e1, decide_eq_true_eq, decide_eq_false_iff_not]
        exact ⟨fun q => absurd q (by omega), fun q => ⟨by omega, fun q2 => absurd q2 (by omega), fun _ => ⟨by omega, .inr ⟨⟨_, _⟩, lp i (by omega), rfl⟩⟩⟩⟩
      · refine takes_of_tree hE (W_ok hS noL_ok) (f := 3) (.inr (by kernel_rfl)) (hp_below _) (push_rc0 E v za zb j i ts us o p k b m) ?_
        simp only [Tree.holds, decide_true, Bool.and_self, Bool.and_true, Bool.true_and, true_and, qSame_self, cap_self, o1, e1, decide_eq_true_eq, decide_eq_false_iff_not]
        exact ⟨fun q => absurd q (by omega), fun q => ⟨by omega, fun q2 => absurd q2 (by omega), fun _ => ⟨by omega, .inr ⟨⟨_, _⟩, lp i (by omega), rfl⟩⟩⟩⟩

theorem TPU_ok (hE : Plain E) : ToldsOK Try.prog E ra base 0 TPU := sumT_ok noT_ok rfl (toldR_ok (c := codeOf 3 pPU) (by kernel_rfl) fun y hy => push_takes hE y hy)

theorem i64_wr (v : Int) : i64 (wr .i64 v) = true := by
  refine i64_iff.2 ?_
  show -9223372036854775808 ≤ (v + 9223372036854775808) % 18446744073709551616 - 9223372036854775808 ∧ (v + 9223372036854775808) % 18446744073709551616 - 9223372036854775808 < 9223372036854775808
  omega
theorem u64_wr (v : Int) : u64 (wr .u64 v) = true := by
  refine u64_iff.2 ?_
  show 0 ≤ v % 18446744073709551616 ∧ v % 18446744073709551616 < 18446744073709551616
  omega
theorem i64_tmod (v : Int) (h : i64 v = true) : i64 (Int.tmod v 18) = true := by
  obtain ⟨h1, h2⟩ := i64_iff.1 h
  refine i64_iff.2 ?_
  rcases Int.le_total 0 v with h0 | h0
  · have a := Int.tmod_nonneg (a := v) 18 h0
    have b := Int.tmod_lt_of_pos v (show (0 : Int) < 18 by decide)
    exact ⟨by omega, by omega⟩
  · have e : Int.tmod v 18 = - Int.tmod (-v) 18 := by rw [Int.neg_tmod]; omega
    have a := Int.tmod_nonneg (a := -v) 18 (by omega)
    have b := Int.tmod_lt_of_pos (-v) (show (0 : Int) < 18 by decide)
    exact ⟨by omega, by omega⟩

theorem act_takes (hE : Plain E) (y : Ac) (h : acD.pre y = true) : Takes Try.prog E ra base 0 (codeOf 3 pAC) (mkT 199 (acD.ins y)) (hp 0 (acD.blks y)) fun z => PostL 199 y z acD.alts := by
  have hS := S3_ok (E := E) (ra := ra) (base := base) hE
  obtain ⟨⟨v, ⟨za, zb⟩, j, i⟩, p, ⟨w, c, r, s⟩, e⟩ := y
  simp only [acD, Bool.and_eq_true, decide_eq_true_eq] at h
  obtain ⟨hl, hi0, hi, hc, hr, hs⟩ := h
  have hs0 := (u64_iff.1 hs).1
  have w0 : ∀ v : Int, 0 ≤ wr .u64 v := fun v => (u64_iff.1 (u64_wr v)).1
  have t0 := i64_tmod _ (i64_wr r)
  have hd1 : decide (0 ≤ i) = true := decide_eq_true hi0
  have hd2 : decide (i < 100) = true := decide_eq_true hi
  cases p with
  | z k b m =>
    have o1 : Sx.ok (.z k b m) = true := (like_z.1 hl).2.1
    have o2 : Rx.ok (.z k b m) = true := (like_z.1 hl).2.1
    have lu := like_up hl hi
    have la : ∀ a r : Int, 0 ≤ a → Pr.like (i + 1) (.z k b (fB (badA 0 k b a r) m (a + r))) = true := fun a r ha => like_zack lu ha
    refine takes_of_treeQ hE (W_ok hS noL_ok) (TPU_ok hE) (f := 3) (.inr (by kernel_rfl)) (hp_below _) (act_z E v za zb j i k b m w c r s e) ?_
    simp only [TreeQ.holds, decide_true, Bool.and_self, Bool.and_true, Bool.true_and, true_and, o1, o2, hl, hd1, hd2, hs, i64_wr, u64_wr, t0, Rx.sx, Bool.not_true, Bool.false_eq_true, false_implies, forall_const, decide_eq_true_eq, decide_eq_false_iff_not, true_implies]
    refine ⟨fun g => ⟨g, ⟨fun s hs => .inl ⟨s, hs, rfl⟩, fun s hs => .inr ⟨s, hs, rfl⟩⟩⟩, fun _ => ⟨fun _ => ⟨fun s hs => .inl ⟨s, hs, rfl⟩, fun s hs => .inr ⟨s, hs, rfl⟩⟩, fun _ => ⟨fun g => ⟨g, .inl ⟨⟨k, b, m⟩, lu, rfl⟩⟩, fun _ => ⟨fun _ => .inl ⟨⟨k, b, m⟩, lu, rfl⟩, fun _ => ⟨fun _ => .inl ⟨⟨k, b, _⟩, la _ _ hs0, rfl⟩, fun _ =>
      ⟨fun _ => .inl ⟨⟨k, b, _⟩, la _ _ (w0 _), rfl⟩, fun _ => .inl ⟨⟨k, b, _⟩, la _ _ (w0 _), rfl⟩⟩⟩⟩⟩⟩⟩
  | q x y =>
    obtain ⟨h1, h2, h3, h4, h5, h6, h7, h8, h9, h10, h11, h12, h13⟩ := like_q.1 hl
    have o1 : Sx.ok (.q x) = true := h2
    have o2 : Rx.ok (.q y) = true := by rw [Rx.ok, h3, decide_eq_true h4]; rfl
    have lu := like_up hl hi
    have la : ∀ a r : Int, 0 ≤ a → Pr.like (i + 1) (.q (x.ack a r) (y.rack a r)) = true := fun a r ha => (like_ack lu ha).2
    have e1 : Sx.n (.q x) = Sx.n (.q y) := h5
    have e2 : Sx.k (.q x) = Sx.k (.q y) := h6
    have e3 : Sx.b (.q x) = Sx.b (.q y) := h7
    have e4 : Sx.m (.q x) = Sx.m (.q y) := h8
    have e5 : Sx.l (.q x) = Sx.l (.q y) := h9
    refine takes_of_treeQ hE (W_ok hS noL_ok) (TPU_ok hE) (f := 3) (.inr (by kernel_rfl)) (hp_below _) (act_q E v za zb j i x y w c r s e) ?_
    simp only [TreeQ.holds, decide_true, Bool.and_self, Bool.and_true, Bool.true_and, true_and, qSame_self, cap_self, o1, o2, hl, hd1, hd2, hs, i64_wr, u64_wr, t0, Rx.sx, e1, e2, e3, e4, e5, Bool.not_true, Bool.false_eq_true, false_implies, forall_const, decide_eq_true_eq, decide_eq_false_iff_not, true_implies]
    refine ⟨fun g => ⟨g, ⟨fun s hs => .inl ⟨s, hs, rfl⟩, fun s hs => .inr ⟨s, hs, rfl⟩⟩⟩, fun _ => ⟨fun _ => ⟨fun s hs => .inl ⟨s, hs, rfl⟩, fun s hs => .inr ⟨s, hs, rfl⟩⟩, fun _ => ⟨fun g => ⟨g, .inr ⟨⟨x, y⟩, lu, rfl⟩⟩, fun _ => ⟨fun _ => .inr ⟨⟨x, y⟩, lu, rfl⟩, fun _ => ⟨fun _ => .inr ⟨⟨_, _⟩, la _ _ hs0, rfl⟩, fun _ =>
      ⟨fun _ => .inr ⟨⟨_, _⟩, la _ _ (w0 _), rfl⟩, fun _ => .inr ⟨⟨_, _⟩, la _ _ (w0 _), rfl⟩⟩⟩⟩⟩⟩⟩

theorem TAC_ok (hE : Plain E) : ToldsOK Try.prog E ra base 0 TAC := sumT_ok noT_ok rfl (toldR_ok (c := codeOf 3 pAC) (by kernel_rfl) fun y hy => act_takes hE y hy)
end

end Go.Proofs.Ytoahbijmemgghaa
