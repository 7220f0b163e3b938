/- send: the program's functions keep their contracts. -/
import Derived.Test.YtoahbijmemgghaaT20a
set_option linter.unusedSimpArgs false
namespace Go.Proofs.Ytoahbijmemgghaa
open Ab

section
variable {E : Nat → Nat → Seg} {ra : Nat → Nat → Nat × Nat} {base : Nat}

theorem okN_iff {n : Nat} {k b m : Int} : okN n k b m = true ↔ n ≤ 1000 ∧ 0 ≤ k ∧ k ≤ 1000 ∧ 0 ≤ b ∧ b ≤ 1000000 ∧ 0 ≤ m ∧ m ≤ 1000000000 := by
  simp only [okN, Bool.and_eq_true, decide_eq_true_eq]
theorem okSd_iff {x : Sd} : okSd x = true ↔ (x.n ≤ 1000 ∧ 0 ≤ x.k ∧ x.k ≤ 1000 ∧ 0 ≤ x.b ∧ x.b ≤ 1000000 ∧ 0 ≤ x.m ∧ x.m ≤ 1000000000) ∧ x.o + x.n ≤ x.ts.length ∧ (x.c = none ∨ x.c = some x.n) := by
  rw [okSd, Bool.and_eq_true, Bool.and_eq_true, okN_iff, decide_eq_true_eq, decide_eq_true_eq]
theorem u64_iff {v : Int} : u64 v = true ↔ 0 ≤ v ∧ v < 18446744073709551616 := by simp only [u64, Bool.and_eq_true, decide_eq_true_eq]
theorem i64_iff {v : Int} : i64 v = true ↔ in64 v := by simp only [i64, in64, Bool.and_eq_true, decide_eq_true_eq]

theorem l_len {x : Sd} (h : okSd x = true) : x.l.length = x.n := by
  obtain ⟨_, h1, _⟩ := okSd_iff.1 h
  rw [Sd.l, List.length_take, List.length_drop]; omega
theorem sx_len {x : Sx} (h : x.ok = true) : x.l.length = x.n := by
  cases x with
  | z k b m => rfl
  | q x => exact l_len h

theorem may_pos (n : Nat) (b m : Int) (hn : 0 < n) : 0 < mayN n b m ∧ mayN n b m ≤ n := by
  unfold mayN; split
  · omega
  · split <;> omega
theorem at_lt (n : Nat) (b m i : Int) (hn : 0 < n) : 0 ≤ atN n b m i ∧ atN n b m i < n := by
  obtain ⟨h1, h2⟩ := may_pos n b m hn
  have h3 := Int.tmod_nonneg (a := if 0 < i then i else 0) (mayN n b m) (by split <;> omega)
  have h4 := Int.tmod_lt_of_pos (if 0 < i then i else 0) h1
  unfold atN
  omega

theorem getD_l (ts : List Int) (o n i : Nat) (h : i < n) : (List.take n (List.drop o ts)).getD i 0 = ts.getD (o + i) 0 := by
  simp [List.getD_eq_getElem?_getD, List.getElem?_take, h, List.getElem?_drop]

theorem next_gives (hE : Plain E) (x : Sd) (i : Int) (h : okSd x = true) : Gives Try.prog E ra base 2 12 [.ptr (.own 0 0 0 0), .int .i64 i] (hp 0 [x.blk 1, Qb x.ts]) fun v h' => v = nextV x.l x.n x.b x.m i ∧ h' = hp 0 [x.blk 1, Qb x.ts] := by
  obtain ⟨⟨h1, h2, h3, h4, h5, h6, h7⟩, h8, h9⟩ := okSd_iff.1 h
  have hl := l_len h
  refine (gives_of_tree hE (W_ok sumNone_ok noL_ok) sumNone_ok (hp_below _) (next_q E x i) ?_).2
  have fin : ∀ A : Int, A = atN x.n x.b x.m i → x.n ≠ 0 → (.tup [.int .u64 (wr .u64 (x.b + wr .u64 A)), msgAt x.ts (x.o + A.toNat), .bool true] : AVal) = nextV x.l x.n x.b x.m i := by
    rintro A rfl hn
    obtain ⟨a1, a2⟩ := at_lt x.n x.b x.m i (by omega)
    have w1 : wr .u64 (atN x.n x.b x.m i) = atN x.n x.b x.m i := wr_u64 (by omega)
    have w2 : wr .u64 (x.b + atN x.n x.b x.m i) = x.b + atN x.n x.b x.m i := wr_u64 (by omega)
    rw [w1, w2, msgAt_eq _ _ (by omega), nextV, nSeq, if_neg hn, nKind, if_neg hn, nTime, hl, if_neg hn, nIs, decide_eq_true hn, ← getD_l x.ts x.o x.n _ (by omega)]
    rfl
  simp only [Tree.holds, decide_eq_true_eq, decide_eq_false_iff_not, Bool.and_eq_true]
  refine ⟨fun k0 => ⟨_, rfl, ?_, rfl⟩, fun k0 => ?_⟩
  · have : x.n = 0 := by omega
    rw [nextV, nSeq, if_pos this, nKind, if_pos this, nTime, hl, if_pos this, nIs, decide_eq_false (fun hh => hh this)]
  · have hn : x.n ≠ 0 := by omega
    obtain ⟨a1, a2⟩ := at_lt x.n x.b x.m i (by omega)
    refine ⟨fun k1 => ?_, fun k1 => ?_⟩
    · have e1 : Int.tmod (if 0 < i then i else 0) 1 = atN x.n x.b x.m i := by rw [atN, mayN, if_pos k1]
      rw [e1]
      exact ⟨⟨a1, a2⟩, by omega, _, rfl, fin _ rfl hn, rfl⟩
    · have w1 : wr .u64 (x.m - x.b) = x.m - x.b := wr_u64 (by omega)
      have w2 : wr .u64 (x.n : Int) = x.n := wr_u64 (by omega)
      have e0 : (if x.m - x.b < (x.n : Int) then x.m - x.b else (x.n : Int)) = mayN x.n x.b x.m := by rw [mayN, if_neg k1]
      obtain ⟨p1, p2⟩ := may_pos x.n x.b x.m (by omega)
      have w3 : wr .i64 (mayN x.n x.b x.m) = mayN x.n x.b x.m := wr_in ⟨by omega, by omega⟩
      have e1 : Int.tmod (if 0 < i then i else 0) (mayN x.n x.b x.m) = atN x.n x.b x.m i := rfl
      rw [w1, w2, e0, w3, e1]
      exact ⟨by omega, ⟨a1, a2⟩, by omega, _, rfl, fin _ rfl hn, rfl⟩

theorem badA_iff {n : Nat} {k b i r : Int} : badA n k b i r = true ↔ b + n < i ∨ r < 0 ∨ k < r := by
  simp only [badA, Bool.or_eq_true, decide_eq_true_eq]

theorem ack_gives_q (hE : Plain E) (ts : List Int) (o n : Nat) (k b m i r : Int) (h : okSd ⟨ts, o, n, none, k, b, m⟩ = true) (hi : 0 ≤ i ∧ i < 18446744073709551616) : Gives Try.prog E ra base 2 15 [.ptr (.own 0 0 0 0), .int .u64 i, .int .i64 r] (hp 0 [Sd.blk 1 ⟨ts, o, n, none, k, b, m⟩, Qb ts]) fun v h' => v = .int .i64 (ackE n k b i r) ∧ h' = hp 0 [(Sd.ack ⟨ts, o, n, none, k, b, m⟩ i r).blk 1, Qb (Sd.ack ⟨ts, o, n, none, k, b, m⟩ i r).ts] := by
  obtain ⟨⟨h1, h2, h3, h4, h5, h6, h7⟩, h8, _⟩ := okSd_iff.1 h
  simp only at h1 h2 h3 h4 h5 h6 h7 h8
  obtain ⟨i1, i2⟩ := hi
  refine (gives_of_tree hE (W_ok sumNone_ok noL_ok) sumNone_ok (hp_below _) (ack_q E ts o n k b m i r) ?_).2
  have bad : badA n k b i r = true → ackE n k b i r = 2 ∧ Sd.ack ⟨ts, o, n, none, k, b, m⟩ i r = ⟨ts, o, n, none, k, b, m⟩ := fun hb => ⟨by rw [ackE, if_pos hb], by rw [Sd.ack, if_pos hb]⟩
  have good : badA n k b i r ≠ true → ackE n k b i r = 0 ∧ Sd.ack ⟨ts, o, n, none, k, b, m⟩ i r = ⟨ts, o + gone b i, n - gone b i, if b < i then some (n - gone b i) else none, k, maxI b i, maxI m (i + r)⟩ := fun hb => ⟨by rw [ackE, if_neg hb], by rw [Sd.ack, if_neg hb]⟩
  have w0 : wr .u64 (n : Int) = n := wr_u64 (by omega)
  have w1 : wr .u64 (i - b) = i - b ∨ ¬ b < i := by
    by_cases hb : b < i
    · exact .inl (wr_u64 (by omega))
    · exact .inr hb
  have w3 : ∀ (hb : badA n k b i r ≠ true), wr .u64 r = r ∧ wr .u64 (i + r) = i + r := fun hb => by
    have hb' : ¬ (b + (n : Int) < i ∨ r < 0 ∨ k < r) := fun hh => hb (badA_iff.2 hh)
    clear w0 w1
    exact ⟨wr_u64 (by omega), wr_u64 (by omega)⟩
  simp only [Tree.holds, decide_eq_true_eq, decide_eq_false_iff_not, Bool.and_eq_true, w0]
  refine ⟨fun a => ⟨fun c => ?_, fun c => ⟨fun d => ?_, fun d => ⟨fun e => ?_, fun e => ?_⟩⟩⟩, fun a => ⟨fun d => ?_, fun d => ⟨fun e => ?_, fun e => ?_⟩⟩⟩
  · have w1 := w1.resolve_right (fun hh => hh a)
    obtain ⟨q1, q2⟩ := bad (badA_iff.2 (by omega))
    exact ⟨_, rfl, by rw [q1], by rw [q2]; rfl⟩
  · obtain ⟨q1, q2⟩ := bad (badA_iff.2 (by omega))
    exact ⟨d, _, rfl, by rw [q1], by rw [q2]; rfl⟩
  · obtain ⟨q1, q2⟩ := bad (badA_iff.2 (by omega))
    exact ⟨_, rfl, by rw [q1], by rw [q2]; rfl⟩
  · have w1 := w1.resolve_right (fun hh => hh a)
    have hn : badA n k b i r ≠ true := fun hh => by have := badA_iff.1 hh; omega
    have hle : ¬ (b + n < i) := fun hh => hn (badA_iff.2 (.inl hh))
    obtain ⟨q1, q2⟩ := good hn
    obtain ⟨w4, w5⟩ := w3 hn
    have w6 : wr .i64 (i - b) = i - b := wr_in ⟨by omega, by omega⟩
    rw [w1, w6]
    refine ⟨a, by omega, by omega, by omega, _, rfl, by rw [q1], ?_⟩
    rw [q2, w4, w5, if_pos a, show maxI b i = i from if_pos a]; rfl
  · obtain ⟨q1, q2⟩ := bad (badA_iff.2 (by omega))
    exact ⟨d, _, rfl, by rw [q1], by rw [q2]; rfl⟩
  · obtain ⟨q1, q2⟩ := bad (badA_iff.2 (by omega))
    exact ⟨_, rfl, by rw [q1], by rw [q2]; rfl⟩
  · have hn : badA n k b i r ≠ true := fun hh => by have := badA_iff.1 hh; omega
    obtain ⟨q1, q2⟩ := good hn
    obtain ⟨w4, w5⟩ := w3 hn
    have g0 : gone b i = 0 := by rw [gone]; omega
    refine ⟨a, _, rfl, by rw [q1], ?_⟩
    rw [q2, w4, w5, if_neg a, show maxI b i = b from if_neg a, g0]; rfl

theorem ack_gives_c (hE : Plain E) (ts : List Int) (o n : Nat) (k b m i r : Int) (h : okSd ⟨ts, o, n, some n, k, b, m⟩ = true) (hi : 0 ≤ i ∧ i < 18446744073709551616) : Gives Try.prog E ra base 2 15 [.ptr (.own 0 0 0 0), .int .u64 i, .int .i64 r] (hp 0 [Sd.blk 1 ⟨ts, o, n, some n, k, b, m⟩, Qb ts]) fun v h' => v = .int .i64 (ackE n k b i r) ∧ h' = hp 0 [(Sd.ack ⟨ts, o, n, some n, k, b, m⟩ i r).blk 1, Qb (Sd.ack ⟨ts, o, n, some n, k, b, m⟩ i r).ts] := by
  obtain ⟨⟨h1, h2, h3, h4, h5, h6, h7⟩, h8, _⟩ := okSd_iff.1 h
  simp only at h1 h2 h3 h4 h5 h6 h7 h8
  obtain ⟨i1, i2⟩ := hi
  refine (gives_of_tree hE (W_ok sumNone_ok noL_ok) sumNone_ok (hp_below _) (ack_c E ts o n k b m i r) ?_).2
  have bad : badA n k b i r = true → ackE n k b i r = 2 ∧ Sd.ack ⟨ts, o, n, some n, k, b, m⟩ i r = ⟨ts, o, n, some n, k, b, m⟩ := fun hb => ⟨by rw [ackE, if_pos hb], by rw [Sd.ack, if_pos hb]⟩
  have good : badA n k b i r ≠ true → ackE n k b i r = 0 ∧ Sd.ack ⟨ts, o, n, some n, k, b, m⟩ i r = ⟨ts, o + gone b i, n - gone b i, if b < i then some (n - gone b i) else some n, k, maxI b i, maxI m (i + r)⟩ := fun hb => ⟨by rw [ackE, if_neg hb], by rw [Sd.ack, if_neg hb]⟩
  have w0 : wr .u64 (n : Int) = n := wr_u64 (by omega)
  have w1 : wr .u64 (i - b) = i - b ∨ ¬ b < i := by
    by_cases hb : b < i
    · exact .inl (wr_u64 (by omega))
    · exact .inr hb
  have w3 : ∀ (hb : badA n k b i r ≠ true), wr .u64 r = r ∧ wr .u64 (i + r) = i + r := fun hb => by
    have hb' : ¬ (b + (n : Int) < i ∨ r < 0 ∨ k < r) := fun hh => hb (badA_iff.2 hh)
    clear w0 w1
    exact ⟨wr_u64 (by omega), wr_u64 (by omega)⟩
  simp only [Tree.holds, decide_eq_true_eq, decide_eq_false_iff_not, Bool.and_eq_true, w0]
  refine ⟨fun a => ⟨fun c => ?_, fun c => ⟨fun d => ?_, fun d => ⟨fun e => ?_, fun e => ?_⟩⟩⟩, fun a => ⟨fun d => ?_, fun d => ⟨fun e => ?_, fun e => ?_⟩⟩⟩
  · have w1 := w1.resolve_right (fun hh => hh a)
    obtain ⟨q1, q2⟩ := bad (badA_iff.2 (by omega))
    exact ⟨_, rfl, by rw [q1], by rw [q2]; rfl⟩
  · obtain ⟨q1, q2⟩ := bad (badA_iff.2 (by omega))
    exact ⟨d, _, rfl, by rw [q1], by rw [q2]; rfl⟩
  · obtain ⟨q1, q2⟩ := bad (badA_iff.2 (by omega))
    exact ⟨_, rfl, by rw [q1], by rw [q2]; rfl⟩
  · have w1 := w1.resolve_right (fun hh => hh a)
    have hn : badA n k b i r ≠ true := fun hh => by have := badA_iff.1 hh; omega
    have hle : ¬ (b + n < i) := fun hh => hn (badA_iff.2 (.inl hh))
    obtain ⟨q1, q2⟩ := good hn
    obtain ⟨w4, w5⟩ := w3 hn
    have w6 : wr .i64 (i - b) = i - b := wr_in ⟨by omega, by omega⟩
    rw [w1, w6]
    refine ⟨a, by omega, by omega, by omega, _, rfl, by rw [q1], ?_⟩
    rw [q2, w4, w5, if_pos a, show maxI b i = i from if_pos a]; rfl
  · obtain ⟨q1, q2⟩ := bad (badA_iff.2 (by omega))
    exact ⟨d, _, rfl, by rw [q1], by rw [q2]; rfl⟩
  · obtain ⟨q1, q2⟩ := bad (badA_iff.2 (by omega))
    exact ⟨_, rfl, by rw [q1], by rw [q2]; rfl⟩
  · have hn : badA n k b i r ≠ true := fun hh => by have := badA_iff.1 hh; omega
    obtain ⟨q1, q2⟩ := good hn
    obtain ⟨w4, w5⟩ := w3 hn
    have g0 : gone b i = 0 := by rw [gone]; omega
    refine ⟨a, _, rfl, by rw [q1], ?_⟩
    rw [q2, w4, w5, if_neg a, show maxI b i = b from if_neg a, g0]; rfl

theorem ack_gives (hE : Plain E) (x : Sd) (i r : Int) (h : okSd x = true) (hi : 0 ≤ i ∧ i < 18446744073709551616) : Gives Try.prog E ra base 2 15 [.ptr (.own 0 0 0 0), .int .u64 i, .int .i64 r] (hp 0 [x.blk 1, Qb x.ts]) fun v h' => v = .int .i64 (ackE x.n x.k x.b i r) ∧ h' = hp 0 [(x.ack i r).blk 1, Qb (x.ack i r).ts] := by
  obtain ⟨ts, o, n, c, k, b, m⟩ := x
  obtain ⟨_, _, h9⟩ := okSd_iff.1 h
  simp only at h9
  rcases h9 with rfl | rfl
  · exact ack_gives_q hE ts o n k b m i r h hi
  · exact ack_gives_c hE ts o n k b m i r h hi

theorem ack_gives_z (hE : Plain E) (k b m i r : Int) (h : okN 0 k b m = true) (hi : 0 ≤ i ∧ i < 18446744073709551616) : Gives Try.prog E ra base 1 15 [.ptr (.own 0 0 0 0), .int .u64 i, .int .i64 r] (hp 0 [zBlk k b m]) fun v h' => v = .int .i64 (ackE 0 k b i r) ∧ h' = hp 0 (Sx.ack (.z k b m) i r).bs := by
  obtain ⟨_, h2, h3, h4, h5, h6, h7⟩ := okN_iff.1 h
  obtain ⟨i1, i2⟩ := hi
  refine (gives_of_tree hE (W_ok sumNone_ok noL_ok) sumNone_ok (hp_below _) (ack_z E k b m i r) ?_).2
  have bad : badA 0 k b i r = true → ackE 0 k b i r = 2 ∧ Sx.ack (.z k b m) i r = .z k b m := fun hb => ⟨by rw [ackE, if_pos hb], by rw [Sx.ack, fB, if_pos hb]⟩
  have good : badA 0 k b i r ≠ true → ackE 0 k b i r = 0 ∧ Sx.ack (.z k b m) i r = .z k b (maxI m (i + r)) := fun hb => ⟨by rw [ackE, if_neg hb], by rw [Sx.ack, fB, if_neg hb]⟩
  have w1 : wr .u64 (i - b) = i - b ∨ ¬ b < i := by
    by_cases hb : b < i
    · exact .inl (wr_u64 (by omega))
    · exact .inr hb
  have w3 : ∀ (hb : badA 0 k b i r ≠ true), wr .u64 r = r ∧ wr .u64 (i + r) = i + r := fun hb => by
    have hb' : ¬ (b + ((0 : Nat) : Int) < i ∨ r < 0 ∨ k < r) := fun hh => hb (badA_iff.2 hh)
    clear w1
    exact ⟨wr_u64 (by omega), wr_u64 (by omega)⟩
  simp only [Tree.holds, decide_eq_true_eq, decide_eq_false_iff_not, Bool.and_eq_true]
  refine ⟨fun a => ⟨fun c => ?_, fun c => ?_⟩, fun a => ⟨fun d => ?_, fun d => ⟨fun e => ?_, fun e => ?_⟩⟩⟩
  · have w1 := w1.resolve_right (fun hh => hh a)
    obtain ⟨q1, q2⟩ := bad (badA_iff.2 (by omega))
    exact ⟨_, rfl, by rw [q1], by rw [q2]; rfl⟩
  · have w1 := w1.resolve_right (fun hh => hh a)
    omega
  · obtain ⟨q1, q2⟩ := bad (badA_iff.2 (by omega))
    exact ⟨d, _, rfl, by rw [q1], by rw [q2]; rfl⟩
  · obtain ⟨q1, q2⟩ := bad (badA_iff.2 (by omega))
    exact ⟨_, rfl, by rw [q1], by rw [q2]; rfl⟩
  · have hn : badA 0 k b i r ≠ true := fun hh => by have := badA_iff.1 hh; omega
    obtain ⟨q1, q2⟩ := good hn
    obtain ⟨w4, w5⟩ := w3 hn
    refine ⟨a, _, rfl, by rw [q1], ?_⟩
    rw [q2, w4, w5]; rfl

theorem new_gives (hE : Plain E) (n : Int) : (newOk n = true → Gives Try.prog E ra base 0 7 [.int .i64 n] (hp 0 []) fun v h' => v = .ptr (.own 0 0 0 0) ∧ h' = hp 0 [zBlk n 0 n]) ∧
    ((!newOk n) = true → Gives Try.prog E ra base 0 7 [.int .i64 n] (hp 0 []) fun v h' => v = .nilp ∧ h' = hp 0 []) := by
  have hi : newOk n = true ↔ 1 ≤ n ∧ n ≤ 16 := by simp only [newOk, Bool.and_eq_true, decide_eq_true_eq]
  constructor
  · intro h
    obtain ⟨h1, h2⟩ := hi.1 h
    refine (gives_of_tree hE (W_ok sumNone_ok noL_ok) sumNone_ok (hp_below _) (new_call E n) ?_).2
    have w : wr .u64 n = n := wr_u64 (by omega)
    simp only [Tree.holds, decide_eq_true_eq, decide_eq_false_iff_not]
    refine ⟨fun k => absurd k (by omega), fun _ => ⟨fun k => absurd k (by omega), fun _ => ⟨_, rfl, rfl, ?_⟩⟩⟩
    rw [w]; rfl
  · intro h
    have h' : ¬ (1 ≤ n ∧ n ≤ 16) := fun hh => by rw [hi.2 hh] at h; cases h
    refine (gives_of_tree hE (W_ok sumNone_ok noL_ok) sumNone_ok (hp_below _) (new_call E n) ?_).2
    simp only [Tree.holds, decide_eq_true_eq, decide_eq_false_iff_not]
    exact ⟨fun _ => ⟨_, rfl, rfl, rfl⟩, fun a => ⟨fun _ => ⟨_, rfl, rfl, rfl⟩, fun b => absurd (by omega) h'⟩⟩

theorem S1_ok (hE : Plain E) : SumsOK Try.prog E ra base S1 := by
  refine sumG_deal hE (sumG_deal hE (sumG_deal hE (sumG_deal hE (sumG_deal hE (sum2_deal hE sumNone_ok ⟨_, Try.func7, by kernel_rfl⟩ (fun n h => (new_gives hE n).1 h) fun n h => (new_gives hE n).2 h) ⟨_, Try.func17, by kernel_rfl⟩ fun x hx => ?_) ⟨_, Try.func18, by kernel_rfl⟩ fun x hx => ?_) ⟨_, Try.func19, by kernel_rfl⟩ fun x hx => ?_) ⟨_, Try.func12, by kernel_rfl⟩ fun y hy => ?_)
    ⟨_, Try.func15, by kernel_rfl⟩ fun y hy => ?_
  · cases x with
    | z k b m => exact (gives_of_tree hE (W_ok sumNone_ok noL_ok) sumNone_ok (hp_below _) (base_z E k b m) ⟨_, rfl, rfl, rfl⟩).2
    | q x => exact (gives_of_tree hE (W_ok sumNone_ok noL_ok) sumNone_ok (hp_below _) (base_q E x) ⟨_, rfl, rfl, rfl⟩).2
  · cases x with
    | z k b m => exact (gives_of_tree hE (W_ok sumNone_ok noL_ok) sumNone_ok (hp_below _) (len_z E k b m) ⟨_, rfl, rfl, rfl⟩).2
    | q x => exact (gives_of_tree hE (W_ok sumNone_ok noL_ok) sumNone_ok (hp_below _) (len_q E x) ⟨_, rfl, rfl, rfl⟩).2
  · cases x with
    | z k b m =>
      obtain ⟨_, h2, h3, _⟩ := okN_iff.1 (show okN 0 k b m = true from hx)
      have w : wr .i64 (k - 0) = k - 0 := wr_in ⟨by omega, by omega⟩
      exact (gives_of_tree hE (W_ok sumNone_ok noL_ok) sumNone_ok (hp_below _) (left_z E k b m) ⟨_, rfl, by rw [w]; rfl, rfl⟩).2
    | q x =>
      obtain ⟨⟨h1, h2, h3, _⟩, _⟩ := okSd_iff.1 (show okSd x = true from hx)
      have w : wr .i64 (x.k - (x.n : Int)) = x.k - (x.n : Int) := wr_in ⟨by omega, by omega⟩
      exact (gives_of_tree hE (W_ok sumNone_ok noL_ok) sumNone_ok (hp_below _) (left_q E x) ⟨_, rfl, by rw [w]; rfl, rfl⟩).2
  · obtain ⟨x, i, r⟩ := y
    simp only [nextD, Bool.and_eq_true] at hy
    cases x with
    | z k b m => exact (gives_of_tree hE (W_ok sumNone_ok noL_ok) sumNone_ok (hp_below _) (next_z E k b m i) ⟨_, rfl, rfl, rfl⟩).2
    | q x => exact next_gives hE x i hy.1
  · obtain ⟨x, i, r⟩ := y
    simp only [ackD, Bool.and_eq_true] at hy
    have hu := u64_iff.1 hy.2.1
    cases x with
    | z k b m => exact ack_gives_z hE k b m i r hy.1 hu
    | q x => exact ack_gives hE x i r hy.1 hu
end

end Go.Proofs.Ytoahbijmemgghaa
