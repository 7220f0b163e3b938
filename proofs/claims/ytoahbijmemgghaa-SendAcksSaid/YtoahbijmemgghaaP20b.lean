/- send: SendAcks: what two answers make, in both orders. -/
import Derived.Test.YtoahbijmemgghaaT20b
import Derived.Test.YtoahbijmemgghaaP20w
set_option linter.unusedSimpArgs false
namespace Go.Proofs.Ytoahbijmemgghaa
open Ab

theorem cap_self (c : Option Nat) : sameCap c c = true := by
  cases c <;> simp [sameCap]

/-- one sender behind another one: answers came -/
structure After (x0 x : Sd) : Prop where
  ok : okSd x = true
  k : x.k = x0.k
  b : x0.b ≤ x.b
  e : x.b + (x.n : Int) = x0.b + (x0.n : Int)
  l : x.l = x0.l.drop (x.b - x0.b).toNat
  m : x.m ≤ 10000
  n0 : x0.n ≤ 1000

theorem After.refl {x : Sd} (h : okSd x = true) (hm : x.m ≤ 10000) : After x x :=
  ⟨h, rfl, Int.le_refl _, rfl, by simp, hm, (okSd_iff.1 h).1.1⟩

theorem ack_bad {x : Sd} {i r : Int} (h : badA x.n x.k x.b i r = true) : x.ack i r = x := by rw [Sd.ack, if_pos h]
theorem ack_good {x : Sd} {i r : Int} (h : badA x.n x.k x.b i r ≠ true) : x.ack i r = ⟨x.ts, x.o + gone x.b i, x.n - gone x.b i, if x.b < i then some (x.n - gone x.b i) else x.c, x.k, maxI x.b i, maxI x.m (i + r)⟩ := by rw [Sd.ack, if_neg h]

theorem After.ack {x0 x : Sd} (h : After x0 x) (h0 : x0.b ≤ 1000) {i r : Int} (hi : 0 ≤ i) : After x0 (x.ack i r) := by
  by_cases hb : badA x.n x.k x.b i r = true
  · rw [ack_bad hb]; exact h
  · have hb' : ¬ (x.b + (x.n : Int) < i ∨ r < 0 ∨ x.k < r) := fun hh => hb (badA_iff.2 hh)
    obtain ⟨⟨h1, h2, h3, h4, h5, h6, h7⟩, h8, h9⟩ := okSd_iff.1 h.ok
    have hk := h.k
    have hbb := h.b
    have he := h.e
    have hl := h.l
    have hm := h.m
    have hn0 := h.n0
    rw [ack_good hb]
    have hg : (gone x.b i : Int) = if x.b < i then i - x.b else 0 := by rw [gone]; split <;> omega
    have hgn : gone x.b i ≤ x.n := by split at hg <;> omega
    have hbi : maxI x.b i = x.b + (gone x.b i : Int) := by rw [maxI, hg]; split <;> omega
    refine ⟨okSd_iff.2 ⟨⟨?_, h2, h3, ?_, ?_, ?_, ?_⟩, ?_, ?_⟩, hk, ?_, ?_, ?_, ?_, hn0⟩
    · show x.n - gone x.b i ≤ 1000; omega
    · show 0 ≤ maxI x.b i; omega
    · show maxI x.b i ≤ 1000000; omega
    · show 0 ≤ maxI x.m (i + r); rw [maxI]; split <;> omega
    · show maxI x.m (i + r) ≤ 1000000000; rw [maxI]; split <;> omega
    · show x.o + gone x.b i + (x.n - gone x.b i) ≤ x.ts.length; omega
    · show (if x.b < i then some (x.n - gone x.b i) else x.c) = none ∨ (if x.b < i then some (x.n - gone x.b i) else x.c) = some (x.n - gone x.b i)
      split
      · exact .inr rfl
      · have : gone x.b i = 0 := by rw [if_neg (by assumption)] at hg; omega
        rw [this]; exact h9
    · show x0.b ≤ maxI x.b i; omega
    · show maxI x.b i + ((x.n - gone x.b i : Nat) : Int) = _; omega
    · show List.take (x.n - gone x.b i) (List.drop (x.o + gone x.b i) x.ts) = _
      have e2 : (maxI x.b i - x0.b).toNat = (x.b - x0.b).toNat + gone x.b i := by omega
      show _ = List.drop (maxI x.b i - x0.b).toNat x0.l
      have e3 : List.drop ((x.b - x0.b).toNat + gone x.b i) x0.l = List.drop (gone x.b i) x.l := by rw [hl, List.drop_drop]
      rw [e2, e3, Sd.l, List.drop_take, List.drop_drop]
    · show maxI x.m (i + r) ≤ 10000; rw [maxI]; split <;> omega

/-- whether an answer is refused hangs on the end, and on the capacity, alone -/
theorem After.bad {x0 x : Sd} (h : After x0 x) (i r : Int) : badA x.n x.k x.b i r = badA x0.n x0.k x0.b i r := by
  rw [badA, badA, h.e, h.k]
theorem After.e' {x0 x : Sd} (h : After x0 x) (i r : Int) : ackE x.n x.k x.b i r = ackE x0.n x0.k x0.b i r := by
  rw [ackE, ackE, h.bad]
theorem After.b' {x0 x : Sd} (h : After x0 x) (i r : Int) : (x.ack i r).b = fB (badA x0.n x0.k x0.b i r) x.b i ∧ (x.ack i r).m = fB (badA x0.n x0.k x0.b i r) x.m (i + r) := by
  rw [← h.bad i r]
  by_cases hb : badA x.n x.k x.b i r = true
  · rw [ack_bad hb, hb]; exact ⟨rfl, rfl⟩
  · rw [ack_good hb, fB, fB, if_neg hb, if_neg hb]; exact ⟨rfl, rfl⟩
theorem fB_comm (p q : Bool) (v i j : Int) : fB q (fB p v i) j = fB q (fB p (fB q v j) i) j := by
  cases p <;> cases q <;> simp only [fB, maxI, Bool.false_eq_true, if_false, if_true] <;> (repeat' split) <;> omega

section
variable {E : Nat → Nat → Seg} {ra : Nat → Nat → Nat × Nat} {base : Nat}

theorem leOk_q {c : Int} {x y : Sd} (hc : newOk c = true) (h1 : okSd x = true) (h2 : okSd y = true) (h3 : x.l = y.l) (h4 : x.b = y.b) (h5 : x.m = y.m) : Le.ok (.q c x y) = true := by
  rw [Le.ok, hc, h1, h2, decide_eq_true h3, decide_eq_true h4, decide_eq_true h5]; rfl
theorem leOk_z {c k b m k' b' m' : Int} (hc : newOk c = true) (h1 : okN 0 k b m = true) (h2 : okN 0 k' b' m' = true) (h4 : b = b') (h5 : m = m') : Le.ok (.z c k b m k' b' m') = true := by
  rw [Le.ok, hc, h1, h2, decide_eq_true h4, decide_eq_true h5]; rfl

theorem rest_takes_q (hE : Plain E) (hT : ToldsOK Try.prog E ra base 0 T6E) (c n0 n1 r0 r1 : Int) (x : Sd) (h : Lr.ok (.q ⟨c, n0, n1, r0, r1⟩ x) = true) :
    Takes Try.prog E ra base 0 (codeOf 6 pLR) (mkT 193 (Ans.ins ⟨c, n0, n1, r0, r1⟩)) (hp 0 (Lr.bs (.q ⟨c, n0, n1, r0, r1⟩ x))) fun y => y = (.ret, mkT 193 [(6, .bool true)], hp 0 []) := by
  simp only [Lr.ok, Bool.and_eq_true, decide_eq_true_eq] at h
  obtain ⟨hc, u0, u1, i0, i1, hx, hb, hm⟩ := h
  have hn0 := (u64_iff.1 u0).1
  have hn1 := (u64_iff.1 u1).1
  have a0 := After.refl hx (by omega)
  have hb0 : x.b ≤ 1000 := by omega
  have a1 := a0.ack hb0 (r := r0) hn0
  have a2 := a1.ack hb0 (r := r1) hn1
  have d1 := a0.ack hb0 (r := r1) hn1
  have d2 := d1.ack hb0 (r := r0) hn0
  have d3 := d2.ack hb0 (r := r1) hn1
  have e1 : ackE (Sx.n (.q (x.ack n1 r1))) (Sx.k (.q (x.ack n1 r1))) (Sx.b (.q (x.ack n1 r1))) n0 r0 = ackE (Sx.n (.q x)) (Sx.k (.q x)) (Sx.b (.q x)) n0 r0 := d1.e' n0 r0
  have e2 : ackE (Sx.n (.q (x.ack n0 r0))) (Sx.k (.q (x.ack n0 r0))) (Sx.b (.q (x.ack n0 r0))) n1 r1 = ackE (Sx.n (.q x)) (Sx.k (.q x)) (Sx.b (.q x)) n1 r1 := a1.e' n1 r1
  have e3 : ackE (Sx.n (.q ((x.ack n1 r1).ack n0 r0))) (Sx.k (.q ((x.ack n1 r1).ack n0 r0))) (Sx.b (.q ((x.ack n1 r1).ack n0 r0))) n1 r1 = ackE (Sx.n (.q x)) (Sx.k (.q x)) (Sx.b (.q x)) n1 r1 := d2.e' n1 r1
  have b1 : ((x.ack n0 r0).ack n1 r1).b = (((x.ack n1 r1).ack n0 r0).ack n1 r1).b := by
    rw [(a1.b' n1 r1).1, (a0.b' n0 r0).1, (d2.b' n1 r1).1, (d1.b' n0 r0).1, (a0.b' n1 r1).1]; exact fB_comm _ _ _ _ _
  have m1 : ((x.ack n0 r0).ack n1 r1).m = (((x.ack n1 r1).ack n0 r0).ack n1 r1).m := by
    rw [(a1.b' n1 r1).2, (a0.b' n0 r0).2, (d2.b' n1 r1).2, (d1.b' n0 r0).2, (a0.b' n1 r1).2]; exact fB_comm _ _ _ _ _
  have n1' : ((x.ack n0 r0).ack n1 r1).n = (((x.ack n1 r1).ack n0 r0).ack n1 r1).n := by
    have := a2.e; have := d3.e; omega
  have k1 : ((x.ack n0 r0).ack n1 r1).k = (((x.ack n1 r1).ack n0 r0).ack n1 r1).k := by rw [a2.k, d3.k]
  have l1 : ((x.ack n0 r0).ack n1 r1).l = (((x.ack n1 r1).ack n0 r0).ack n1 r1).l := by rw [a2.l, d3.l, b1]
  have o0 : Sx.ok (.q x) = true := hx
  have o1 : Sx.ok (.q (x.ack n0 r0)) = true := a1.ok
  have o2 : Sx.ok (.q ((x.ack n0 r0).ack n1 r1)) = true := a2.ok
  have p1 : Sx.ok (.q (x.ack n1 r1)) = true := d1.ok
  have p2 : Sx.ok (.q ((x.ack n1 r1).ack n0 r0)) = true := d2.ok
  have p3 : Sx.ok (.q (((x.ack n1 r1).ack n0 r0).ack n1 r1)) = true := d3.ok
  have f1 : Sx.b (.q ((x.ack n0 r0).ack n1 r1)) = Sx.b (.q (((x.ack n1 r1).ack n0 r0).ack n1 r1)) := b1
  have f2 : Sx.n (.q ((x.ack n0 r0).ack n1 r1)) = Sx.n (.q (((x.ack n1 r1).ack n0 r0).ack n1 r1)) := n1'
  have f3 : Sx.k (.q ((x.ack n0 r0).ack n1 r1)) = Sx.k (.q (((x.ack n1 r1).ack n0 r0).ack n1 r1)) := k1
  have le := leOk_q hc a2.ok d3.ok l1 b1 m1
  have hS := S2_ok (E := E) (ra := ra) (base := base) hE
  refine takes_of_treeQ hE (W_ok hS noL_ok) hT (f := 6) (.inr (by kernel_rfl)) (hp_below _) (rest_q E c n0 n1 r0 r1 x) ?_
  simp only [TreeQ.holds, decide_true, Bool.and_self, Bool.and_true, Bool.true_and, true_and, qSame_self, cap_self, o0, o1, o2, p1, p2, p3, u0, u1, i0, i1, e1, e2, e3, f1, f2, f3, le, Bool.not_true, Bool.false_eq_true, false_implies, forall_const, Le.c, true_implies, implies_true]
  rfl

theorem okN_m {k b m i r : Int} (h : okN 0 k b m = true) (hm : m ≤ 10000) (hb : b ≤ 1000) (hi : 0 ≤ i) : okN 0 k b (fB (badA 0 k b i r) m (i + r)) = true ∧ fB (badA 0 k b i r) m (i + r) ≤ 10000 := by
  obtain ⟨h1, h2, h3, h4, h5, h6, h7⟩ := okN_iff.1 h
  by_cases hq : badA 0 k b i r = true
  · rw [hq]; exact ⟨h, hm⟩
  · have hb' : ¬ (b + ((0 : Nat) : Int) < i ∨ r < 0 ∨ k < r) := fun hh => hq (badA_iff.2 hh)
    have e : fB (badA 0 k b i r) m (i + r) = maxI m (i + r) := if_neg hq
    rw [e]
    have : 0 ≤ maxI m (i + r) ∧ maxI m (i + r) ≤ 10000 := by rw [maxI]; split <;> omega
    exact ⟨okN_iff.2 ⟨h1, h2, h3, h4, h5, by omega, by omega⟩, this.2⟩

theorem rest_takes_z (hE : Plain E) (hT : ToldsOK Try.prog E ra base 0 T6E) (c n0 n1 r0 r1 k b m : Int) (h : Lr.ok (.z ⟨c, n0, n1, r0, r1⟩ k b m) = true) :
    Takes Try.prog E ra base 0 (codeOf 6 pLR) (mkT 193 (Ans.ins ⟨c, n0, n1, r0, r1⟩)) (hp 0 (Lr.bs (.z ⟨c, n0, n1, r0, r1⟩ k b m))) fun y => y = (.ret, mkT 193 [(6, .bool true)], hp 0 []) := by
  simp only [Lr.ok, Bool.and_eq_true, decide_eq_true_eq] at h
  obtain ⟨hc, u0, u1, i0, i1, hx, hb, hm⟩ := h
  have hn0 := (u64_iff.1 u0).1
  have hn1 := (u64_iff.1 u1).1
  obtain ⟨a1, a1'⟩ := okN_m (i := n0) (r := r0) hx (by omega) (by omega) hn0
  obtain ⟨a2, a2'⟩ := okN_m (i := n1) (r := r1) a1 a1' (by omega) hn1
  obtain ⟨d1, d1'⟩ := okN_m (i := n1) (r := r1) hx (by omega) (by omega) hn1
  obtain ⟨d2, d2'⟩ := okN_m (i := n0) (r := r0) d1 d1' (by omega) hn0
  obtain ⟨d3, d3'⟩ := okN_m (i := n1) (r := r1) d2 d2' (by omega) hn1
  have o0 : Sx.ok (.z k b m) = true := hx
  have o1 : Sx.ok (.z k b _) = true := a1
  have o2 : Sx.ok (.z k b _) = true := a2
  have p1 : Sx.ok (.z k b _) = true := d1
  have p2 : Sx.ok (.z k b _) = true := d2
  have p3 : Sx.ok (.z k b _) = true := d3
  have le := leOk_z hc a2 d3 rfl (fB_comm _ _ _ _ _)
  have hS := S2_ok (E := E) (ra := ra) (base := base) hE
  refine takes_of_treeQ hE (W_ok hS noL_ok) hT (f := 6) (.inr (by kernel_rfl)) (hp_below _) (rest_z E c n0 n1 r0 r1 k b m) ?_
  simp only [TreeQ.holds, decide_true, Bool.and_self, Bool.and_true, Bool.true_and, true_and, o0, o1, o2, p1, p2, p3, u0, u1, i0, i1, le, Bool.not_true, Bool.false_eq_true, false_implies, forall_const, Le.c, true_implies, implies_true, Sx.n, Sx.k, Sx.b]
  rfl

theorem wr_next {i : Nat} (h : i < 100000) : wr .i64 ((i : Int) + 1) = ((i + 1 : Nat) : Int) := by rw [wr_in ⟨by omega, by omega⟩]; omega
theorem i64_nat {i : Nat} (h : i < 100000) : i64 (i : Int) = true := i64_iff.2 ⟨by omega, by omega⟩
theorem newOk_iff {n : Int} : newOk n = true ↔ 1 ≤ n ∧ n ≤ 16 := by simp only [newOk, Bool.and_eq_true, decide_eq_true_eq]

/-- the last loop: the same may be sent -/
theorem same_loop (hE : Plain E) (y : Le) (h : Le.ok y = true) : Takes Try.prog E ra base 0 (.loop (codeOf 6 (false :: pLE))) (mkT 193 (leIns y.c 0)) (hp 0 y.bs) fun z => z = (.exit 4, mkT 193 [], hp 0 []) := by
  have hc : newOk y.c = true := by
    cases y <;> simp only [Le.ok, Bool.and_eq_true] at h <;> exact h.1
  obtain ⟨hc1, hc2⟩ := newOk_iff.1 hc
  have hS := S2_ok (E := E) (ra := ra) (base := base) hE
  refine takes_loop (fun j ts h => ∃ i : Nat, i ≤ 17 ∧ j = 17 - i + 1 ∧ ts = mkT 193 (leIns y.c i) ∧ h = hp 0 y.bs) (fun ts h => by rintro ⟨i, _, h, _⟩; omega) (fun j ts h' => ?_) (j := 18) ⟨0, by omega, rfl, rfl, rfl⟩
  rintro ⟨i, h1, h2, rfl, rfl⟩
  have hw := wr_next (i := i) (by omega)
  have hi := i64_nat (i := i) (by omega)
  cases y with
  | z c k b m k' b' m' =>
    simp only [Le.ok, Bool.and_eq_true, decide_eq_true_eq] at h
    obtain ⟨_, q1, q2, rfl, rfl⟩ := h
    have o1 : Sx.ok (.z k b m) = true := q1
    have o2 : Sx.ok (.z k' b m) = true := q2
    simp only [Le.c] at hc2
    refine takes_of_tree hE (W_ok hS noL_ok) (f := 6) (.inr (by kernel_rfl)) (hp_below _) (acksE_z E c i k b m k' b m) ?_
    simp only [Tree.holds, decide_true, Bool.and_self, Bool.and_true, Bool.true_and, true_and, o1, o2, hi, hw, decide_eq_true_eq, decide_eq_false_iff_not]
    exact ⟨fun g => ⟨i + 1, by omega, by omega, rfl, rfl⟩, fun g => rfl⟩
  | q c x y =>
    simp only [Le.ok, Bool.and_eq_true, decide_eq_true_eq] at h
    obtain ⟨_, q1, q2, g1, g2, g3⟩ := h
    have o1 : Sx.ok (.q x) = true := q1
    have o2 : Sx.ok (.q y) = true := q2
    have e1 : Sx.l (.q x) = Sx.l (.q y) := g1
    have e2 : Sx.b (.q x) = Sx.b (.q y) := g2
    have e3 : Sx.m (.q x) = Sx.m (.q y) := g3
    have e4 : Sx.n (.q x) = Sx.n (.q y) := by show x.n = y.n; rw [← l_len q1, ← l_len q2, g1]
    simp only [Le.c] at hc2
    refine takes_of_tree hE (W_ok hS noL_ok) (f := 6) (.inr (by kernel_rfl)) (hp_below _) (acksE_q E c i x y) ?_
    simp only [Tree.holds, decide_true, Bool.and_self, Bool.and_true, Bool.true_and, true_and, qSame_self, cap_self, o1, o2, hi, hw, e1, e2, e3, e4, Bool.not_true, Bool.false_eq_true, false_implies, decide_eq_true_eq, decide_eq_false_iff_not]
    exact ⟨fun g _ _ _ _ => ⟨i + 1, by omega, by omega, rfl, rfl⟩, fun g => rfl⟩

theorem T6E_ok (hE : Plain E) : ToldsOK Try.prog E ra base 0 T6E :=
  sumT_ok noT_ok rfl (toldR_ok (c := .loop (codeOf 6 (false :: pLE))) (by kernel_rfl) fun y hy => (same_loop hE y hy).mono fun z hz => ⟨(), trivial, hz⟩)

theorem rng_succ (n : Nat) : rng (n + 1) = rng n ++ [(n : Int)] := by simp [rng, List.range_succ]
theorem rng_len (n : Nat) : (rng n).length = n := by simp [rng]

theorem row_one (t : Int) : (.segs [⟨1, 24, [.int .i64 [1], .int .i64 [0], .int .u32 [0], .int .i64 [0], .int .i64 [0], .int .u8 [0], .bool [false], .bool [false], .int .i64 (List.take 1 (List.drop 0 [t])), .int .i64 [0], .int .i64 [0], .int .i64 [0], .nilc 1, .int .i64 [0], .int .i64 [0], .int .i64 [0], .int .i64 [0], .int .i64 [0], .int .i64 [0], .int .i64 [0], .int .i64 [0], .int .i64 [0], .bool [false], .nilc 1]⟩] : Blk) = Qb [t] := rfl

theorem full_ok {k : Int} {n : Nat} (hk : newOk k = true) (hn : (n : Int) ≤ k) : okSd (full k n) = true := by
  obtain ⟨h1, h2⟩ := newOk_iff.1 hk
  exact okSd_iff.2 ⟨⟨by show n ≤ 1000; omega, by show 0 ≤ k; omega, by show k ≤ 1000; omega, by show (0 : Int) ≤ 0; decide, by show (0 : Int) ≤ 1000000; decide, by show 0 ≤ k; omega, by show k ≤ 1000000000; omega⟩, by show 0 + n ≤ (rng n).length; rw [rng_len]; omega, .inl rfl⟩

/-- the first loop: messages are pushed -/
theorem push_loop (hE : Plain E) (y : La) (h : laD.pre y = true) : Takes Try.prog E ra base 0 (.loop (codeOf 6 (false :: pLA))) (mkT 193 (laD.ins y)) (hp 0 (laD.blks y)) fun z => PostL 193 y z laD.alts := by
  obtain ⟨z, k, n⟩ := y
  simp only [laD, Bool.and_eq_true, decide_eq_true_eq] at h
  obtain ⟨hk, hn0, hnk⟩ := h
  obtain ⟨hk1, hk2⟩ := newOk_iff.1 hk
  have hS := S2_ok (E := E) (ra := ra) (base := base) hE
  refine Takes.free (k := 3) ?_
  refine takes_loop (fun j ts h => ∃ i : Nat, (i : Int) ≤ n ∧ j = 17 - i + 1 ∧ ts = mkT 193 (laIns ⟨z, k, n⟩ ++ [(11, .int .i64 i)]) ∧ ((i = 0 ∧ h = hp 0 [z.blk, zBlk k 0 k, zBlk k 0 k]) ∨ (0 < i ∧ h = hp 0 [z.blk, (full k i).blk 3, (full k i).blk 4, Qb (rng i), Qb (rng i)]))) (fun ts h => by rintro ⟨i, _, h, _⟩; omega) (fun j ts h' => ?_) (j := 18) ⟨0, by omega, rfl, rfl, .inl ⟨rfl, rfl⟩⟩
  rintro ⟨i, h1, h2, rfl, ⟨rfl, rfl⟩ | ⟨h3, rfl⟩⟩
  · refine takes_of_tree hE (W_ok hS noL_ok) (f := 6) (.inr (by kernel_rfl)) (hp_below _) (acksA_z E z k n ((0 : Nat) : Int)) ?_
    have o1 : Sx.ok (.z k 0 k) = true := okN_iff.2 ⟨by decide, by omega, by omega, by decide, by decide, by omega, by omega⟩
    have e1 : ¬ (Sx.k (.z k 0 k) - ((Sx.n (.z k 0 k) : Nat) : Int) = 0) := by show ¬ (k - ((0 : Nat) : Int) = 0); omega
    have hw := wr_next (i := 0) (by omega)
    simp only [Tree.holds, decide_true, Bool.and_self, Bool.and_true, Bool.true_and, true_and, o1, hw, e1, decide_eq_true_eq, decide_eq_false_iff_not, false_implies, not_false_eq_true, true_implies, forall_const]
    refine ⟨fun g => ⟨1, by omega, by omega, rfl, .inr ⟨by omega, rfl⟩⟩, fun g => .inl ⟨(), by show n = 0; omega, rfl⟩⟩
  · refine takes_of_tree hE (W_ok hS noL_ok) (f := 6) (.inr (by kernel_rfl)) (hp_below _) (acksA_q E z k n i (rng i) 0 i) ?_
    have o1 : Sx.ok (.q (full k i)) = true := full_ok hk (by omega)
    have hw := wr_next (i := i) (by omega)
    have hl := rng_len i
    have hq : Qp (rng i) 0 i (i : Int) = Qb (rng (i + 1)) := by rw [Qp_eq _ _ _ _ (by omega), rng_succ, List.drop_zero, List.take_of_length_le (by omega)]
    simp only [full] at o1
    simp only [Tree.holds, decide_true, Bool.and_self, Bool.and_true, Bool.true_and, true_and, qSame_self, o1, hw, hq, decide_eq_true_eq, decide_eq_false_iff_not]
    refine ⟨fun g => ⟨fun e => ?_, fun e => ⟨by omega, by omega, e, by omega, by omega, i + 1, by omega, by omega, rfl, .inr ⟨by omega, rfl⟩⟩⟩, fun g => .inr ⟨i, ⟨h3, by show n = i; omega⟩, rfl⟩⟩
    exfalso
    have : k - (i : Int) = 0 := e
    omega

theorem T6_ok (hE : Plain E) : ToldsOK Try.prog E ra base 0 T6 := by
  refine sumT_ok (sumT_ok noT_ok rfl (toldR_ok (c := codeOf 6 pLR) (by kernel_rfl) fun y hy => ?_)) rfl (toldR_ok (c := .loop (codeOf 6 (false :: pLA))) (by kernel_rfl) fun y hy => push_loop hE y hy)
  cases y with
  | z a k b m => exact (rest_takes_z hE (T6E_ok hE) a.c a.n0 a.n1 a.r0 a.r1 k b m hy).mono fun z hz => ⟨(), trivial, hz⟩
  | q a x => exact (rest_takes_q hE (T6E_ok hE) a.c a.n0 a.n1 a.r0 a.r1 x hy).mono fun z hz => ⟨(), trivial, hz⟩
end

end Go.Proofs.Ytoahbijmemgghaa
