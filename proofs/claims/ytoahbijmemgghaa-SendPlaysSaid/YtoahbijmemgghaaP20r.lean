/- send: the document's functions keep their contracts. -/
import Derived.Test.YtoahbijmemgghaaT20r
set_option linter.unusedSimpArgs false
namespace Go.Proofs.Ytoahbijmemgghaa
open Ab

section
variable {E : Nat → Nat → Seg} {ra : Nat → Nat → Nat × Nat} {base : Nat}

theorem caps_self (c : Option Nat) : sameCap c c = true := by cases c <;> simp [sameCap]
theorem wr_up {i : Nat} (h : i < 100000) : wr .i64 ((i : Int) + 1) = ((i + 1 : Nat) : Int) := by rw [wr_in ⟨by omega, by omega⟩]; omega

theorem next_val {x : Sd} (h : okSd x = true) {i A : Int} (hA : A = atN x.n x.b x.m i) (hn : x.n ≠ 0) : (.tup [.int .u64 (wr .u64 (x.b + wr .u64 A)), msgAt x.ts (x.o + A.toNat), .bool true] : AVal) = nextV x.l x.n x.b x.m i := by
  subst hA
  obtain ⟨⟨h1, h2, h3, h4, h5, h6, h7⟩, h8, h9⟩ := okSd_iff.1 h
  have hl := l_len h
  obtain ⟨a1, a2⟩ := at_lt x.n x.b x.m i (by omega)
  have w1 : wr .u64 (atN x.n x.b x.m i) = atN x.n x.b x.m i := wr_u64 (by omega)
  have w2 : wr .u64 (x.b + atN x.n x.b x.m i) = x.b + atN x.n x.b x.m i := wr_u64 (by omega)
  rw [w1, w2, msgAt_eq _ _ (by omega), nextV, nSeq, if_neg hn, nKind, if_neg hn, nTime, hl, if_neg hn, nIs, decide_eq_true hn, ← getD_l x.ts x.o x.n _ (by omega)]
  rfl
theorem next_none {x : Sd} (h : okSd x = true) {i : Int} (hn : x.n = 0) : (.tup [.int .u64 0, msgV 0 0, .bool false] : AVal) = nextV x.l x.n x.b x.m i := by
  rw [nextV, nSeq, if_pos hn, nKind, if_pos hn, nTime, l_len h, if_pos hn, nIs, decide_eq_false (fun hh => hh hn)]

theorem cnt_step (j : Nat) (b m : Int) : cntN (j + 1) b m = cntN j b m + if j = 0 ∨ b + j < m then 1 else 0 := by
  unfold cntN mayN
  rw [if_neg (Nat.succ_ne_zero j)]
  by_cases hj : j = 0
  · subst hj; simp only [if_true, true_or]
    (repeat' split) <;> omega
  · rw [if_neg hj]
    simp only [hj, false_or]
    (repeat' split) <;> omega
theorem cnt_le (j : Nat) (b m : Int) : 0 ≤ cntN j b m ∧ cntN j b m ≤ j := by
  unfold cntN mayN
  (repeat' split) <;> omega

theorem zn_loop (hE : Plain E) (y : Zn) (h : znD.pre y = true) : Takes Try.prog E ra base 1 (.loop (codeOf 13 (false :: pRN))) (mkT 58 (znD.ins y)) (hp 0 (znD.blks y)) fun z => PostL 58 y z znD.alts := by
  obtain ⟨k, b, m, i⟩ := y
  refine takes_loop (fun j ts h => j = 1 ∧ ts = mkT 58 (znD.ins ⟨k, b, m, i⟩) ∧ h = hp 0 [rzBlk k b m, m0]) (fun ts h => by rintro ⟨h, _⟩; omega) (fun j ts h' => ?_) (j := 1) ⟨rfl, rfl, rfl⟩
  rintro ⟨_, rfl, rfl⟩
  refine takes_of_tree hE (W_ok sumNone_ok noL_ok) (f := 13) (.inr (by kernel_rfl)) (hp_below _) (rnext_round_z E k b m i 0 0) ?_
  simp only [Tree.holds, decide_eq_true_eq, decide_eq_false_iff_not]
  exact ⟨fun hh => absurd hh (by omega), fun _ => ⟨(), trivial, rfl⟩⟩

theorem rn_loop (hE : Plain E) (y : Rn) (h : rnD.pre y = true) : Takes Try.prog E ra base 2 (.loop (codeOf 13 (false :: pRN))) (mkT 58 (rnD.ins y)) (hp 0 (rnD.blks y)) fun z => PostL 58 y z rnD.alts := by
  obtain ⟨x, i⟩ := y
  obtain ⟨⟨h1, h2, h3, h4, h5, h6, h7⟩, h8, h9⟩ := okSd_iff.1 (show okSd x = true from h)
  refine takes_loop (fun j ts h => ∃ q : Nat, q ≤ x.n ∧ j = x.n - q + 1 ∧ ts = mkT 58 (rnIns i ++ [(7, .int .i64 (cntN q x.b x.m)), (8, .int .i64 q)]) ∧ h = hp 0 (Rn.bs ⟨x, i⟩)) (fun ts h => by rintro ⟨q, _, h, _⟩; omega) (fun j ts h' => ?_) (j := x.n + 1) ⟨0, by omega, by omega, rfl, rfl⟩
  rintro ⟨q, q1, q2, rfl, rfl⟩
  have hw := wr_up (i := q) (by omega)
  have w1 : wr .u64 (q : Int) = q := wr_u64 (by omega)
  have w2 : wr .u64 (x.b + (q : Int)) = x.b + q := wr_u64 (by omega)
  obtain ⟨c1, c2⟩ := cnt_le q x.b x.m
  have w3 : wr .i64 (cntN q x.b x.m + 1) = cntN q x.b x.m + 1 := wr_in ⟨by omega, by omega⟩
  have hs := cnt_step q x.b x.m
  refine takes_of_tree hE (W_ok sumNone_ok noL_ok) (f := 13) (.inr (by kernel_rfl)) (hp_below _) (rnext_round_q E x i (cntN q x.b x.m) q) ?_
  simp only [Tree.holds, decide_eq_true_eq, decide_eq_false_iff_not, w1, w2, w3, hw]
  refine ⟨fun g => ⟨fun e => ⟨q + 1, by omega, by omega, ?_, rfl⟩, fun e => ⟨fun e2 => ⟨q + 1, by omega, by omega, ?_, rfl⟩, fun e2 => ⟨q + 1, by omega, by omega, ?_, rfl⟩⟩⟩, fun g => ⟨(), trivial, ?_⟩⟩
  · rw [hs, if_pos (.inl (by omega))]; rfl
  · rw [hs, if_pos (.inr e2)]; rfl
  · rw [hs, if_neg (by omega), Int.add_zero]; rfl
  · have : q = x.n := by omega
    subst this; rfl

theorem rnext_gives (hE : Plain E) (x : Sd) (i : Int) (h : okSd x = true) : Gives Try.prog E ra base 2 13 [.ptr (.own 0 0 0 0), .int .i64 i] (hp 0 [x.rblk 1, Qb x.ts]) fun v h' => v = nextV x.l x.n x.b x.m i ∧ h' = hp 0 [x.rblk 1, Qb x.ts] := by
  have hT : ToldsOK Try.prog E ra base 2 T13q := sumT_ok noT_ok rfl (toldR_ok (c := .loop (codeOf 13 (false :: pRN))) (by kernel_rfl) fun y hy => rn_loop hE y hy)
  refine gives_of_treeQ hE (W_ok sumNone_ok noL_ok) hT (hp_below _) (rnext_q E x i) ?_
  obtain ⟨⟨h1, h2, h3, h4, h5, h6, h7⟩, h8, h9⟩ := okSd_iff.1 h
  simp only [TreeQ.holds, decide_true, Bool.and_self, Bool.and_true, Bool.true_and, true_and, qSame_self, caps_self, h, decide_eq_true_eq, decide_eq_false_iff_not, Bool.and_eq_true]
  rintro _ _
  by_cases hn : x.n = 0
  · have e : cntN x.n x.b x.m = 0 := by rw [hn]; rfl
    exact ⟨fun _ => ⟨_, rfl, next_none h hn, rfl⟩, fun hh => absurd e hh⟩
  · have e : cntN x.n x.b x.m = mayN x.n x.b x.m := if_neg hn
    obtain ⟨p1, p2⟩ := may_pos x.n x.b x.m (by omega)
    obtain ⟨a1, a2⟩ := at_lt x.n x.b x.m i (by omega)
    rw [e]
    have e1 : Int.tmod (if 0 < i then i else 0) (mayN x.n x.b x.m) = atN x.n x.b x.m i := rfl
    rw [e1]
    exact ⟨fun hh => absurd hh (by omega), fun _ => ⟨by omega, ⟨a1, a2⟩, by omega, _, rfl, next_val h rfl hn, rfl⟩⟩

theorem za_loop (hE : Plain E) (y : Zi) (h : zaD.pre y = true) : Takes Try.prog E ra base 1 (.loop (codeOf 16 (false :: pRA))) (mkT 65 (zaD.ins y)) (hp 0 (zaD.blks y)) fun z => PostL 65 y z zaD.alts := by
  obtain ⟨k, b, m, i, r⟩ := y
  simp only [zaD, decide_eq_true_eq] at h
  have hle : ¬ b < i := by omega
  refine takes_loop (fun j ts h => j = 1 ∧ ts = mkT 65 (raIns i r) ∧ h = hp 0 [rzBlk k b m]) (fun ts h => by rintro ⟨h, _⟩; omega) (fun j ts h' => ?_) (j := 1) ⟨rfl, rfl, rfl⟩
  rintro ⟨_, rfl, rfl⟩
  refine takes_of_tree hE (W_ok sumNone_ok noL_ok) (f := 16) (.inr (by kernel_rfl)) (hp_below _) (rack_round_z E k b m i r) ?_
  exact ⟨decide_eq_false hle, (), trivial, rfl⟩

theorem ra_loop (hE : Plain E) (y : Qi) (h : raD.pre y = true) : Takes Try.prog E ra base 2 (.loop (codeOf 16 (false :: pRA))) (mkT 65 (raD.ins y)) (hp 0 (raD.blks y)) fun z => PostL 65 y z raD.alts := by
  obtain ⟨⟨ts, o, n, c, k, b, m⟩, i, r⟩ := y
  simp only [raD, Bool.and_eq_true, decide_eq_true_eq] at h
  obtain ⟨h0, rfl, hi⟩ := h
  obtain ⟨⟨h1, h2, h3, h4, h5, h6, h7⟩, h8, h9⟩ := okSd_iff.1 h0
  simp only at h1 h2 h3 h4 h5 h6 h7 h8 hi
  have hg : (gone b i : Int) = if b < i then i - b else 0 := by rw [gone]; split <;> omega
  have hgn : gone b i ≤ n := by split at hg <;> omega
  refine takes_loop (fun j ts' h => ∃ q : Nat, q ≤ gone b i ∧ j = gone b i - q + 1 ∧ ts' = mkT 65 (raIns i r) ∧ h = hp 0 [Sd.rblk 1 ⟨ts, o + q, n - q, none, k, b + q, m⟩, Qb ts]) (fun ts h => by rintro ⟨q, _, h, _⟩; omega) (fun j ts' h' => ?_) (j := gone b i + 1) ⟨0, by omega, by omega, rfl, by simp [raD]⟩
  rintro ⟨q, q1, q2, rfl, rfl⟩
  have hw : wr .u64 (b + (q : Int) + 1) = b + ((q + 1 : Nat) : Int) := by rw [wr_u64 (by omega)]; omega
  refine takes_of_tree hE (W_ok sumNone_ok noL_ok) (f := 16) (.inr (by kernel_rfl)) (hp_below _) (rack_round_q E ts (o + q) (n - q) k (b + q) m i r) ?_
  simp only [Tree.holds, decide_eq_true_eq, decide_eq_false_iff_not, hw]
  refine ⟨fun g => ?_, fun g => ⟨(), trivial, ?_⟩⟩
  · rw [if_pos (by omega)] at hg
    exact ⟨by omega, q + 1, by omega, by omega, rfl, by rw [show o + (q + 1) = o + q + 1 by omega, show n - (q + 1) = n - q - 1 by omega]; rfl⟩
  · have e : q = gone b i := by split at hg <;> omega
    have e2 : maxI b i = b + (gone b i : Int) := by rw [maxI, hg]; split <;> omega
    subst e
    show _ = (_, _, hp 0 [Sd.rblk 1 (Sd.moved _ i), Qb ts])
    rw [Sd.moved, e2]; rfl

theorem rbad_q {x : Sd} {i r : Int} (h : badA x.n x.k x.b i r = true) : x.rack i r = x := by rw [Sd.rack, if_pos h]
theorem rgood_q {x : Sd} {i r : Int} (h : badA x.n x.k x.b i r ≠ true) : x.rack i r = ⟨x.ts, x.o + gone x.b i, x.n - gone x.b i, none, x.k, maxI x.b i, maxI x.m (i + r)⟩ := by rw [Sd.rack, if_neg h]

theorem rack_gives (hE : Plain E) (ts : List Int) (o n : Nat) (k b m i r : Int) (h : okSd ⟨ts, o, n, none, k, b, m⟩ = true) (hi : 0 ≤ i ∧ i < 18446744073709551616) :
    Gives Try.prog E ra base 2 16 [.ptr (.own 0 0 0 0), .int .u64 i, .int .i64 r] (hp 0 [Sd.rblk 1 ⟨ts, o, n, none, k, b, m⟩, Qb ts]) fun v h' => v = .int .i64 (ackE n k b i r) ∧ h' = hp 0 [(Sd.rack ⟨ts, o, n, none, k, b, m⟩ i r).rblk 1, Qb (Sd.rack ⟨ts, o, n, none, k, b, m⟩ i r).ts] := by
  have hT : ToldsOK Try.prog E ra base 2 T16q := sumT_ok noT_ok rfl (toldR_ok (c := .loop (codeOf 16 (false :: pRA))) (by kernel_rfl) fun y hy => ra_loop hE y hy)
  refine gives_of_treeQ hE (W_ok sumNone_ok noL_ok) hT (hp_below _) (rack_q E ts o n k b m i r) ?_
  obtain ⟨⟨h1, h2, h3, h4, h5, h6, h7⟩, h8, h9⟩ := okSd_iff.1 h
  simp only at h1 h2 h3 h4 h5 h6 h7 h8
  obtain ⟨i1, i2⟩ := hi
  have w0 : wr .u64 (n : Int) = n := wr_u64 (by omega)
  have w1 : wr .u64 (b + (n : Int)) = b + n := wr_u64 (by omega)
  have bad : badA n k b i r = true → ackE n k b i r = 2 ∧ Sd.rack ⟨ts, o, n, none, k, b, m⟩ i r = ⟨ts, o, n, none, k, b, m⟩ := fun hb => ⟨by rw [ackE, if_pos hb], by rw [Sd.rack, if_pos hb]⟩
  simp only [TreeQ.holds, decide_true, Bool.and_self, Bool.and_true, Bool.true_and, true_and, qSame_self, caps_self, h, decide_eq_true_eq, decide_eq_false_iff_not, Bool.and_eq_true, w0, w1]
  refine ⟨fun a => ?_, fun a => ⟨fun d => ?_, fun d => ⟨fun e => ?_, fun e => ⟨by omega, fun _ _ => ?_⟩⟩⟩⟩
  · obtain ⟨q1, q2⟩ := bad (badA_iff.2 (.inl a))
    exact ⟨_, rfl, by rw [q1], by rw [q2]; rfl⟩
  · obtain ⟨q1, q2⟩ := bad (badA_iff.2 (.inr (.inl d)))
    exact ⟨_, rfl, by rw [q1], by rw [q2]; rfl⟩
  · obtain ⟨q1, q2⟩ := bad (badA_iff.2 (.inr (.inr e)))
    exact ⟨_, rfl, by rw [q1], by rw [q2]; rfl⟩
  · have hn : badA n k b i r ≠ true := fun hh => by have := badA_iff.1 hh; omega
    have w2 : wr .u64 r = r := wr_u64 (by omega)
    have w3 : wr .u64 (i + r) = i + r := wr_u64 (by omega)
    refine ⟨_, rfl, by rw [ackE, if_neg hn], ?_⟩
    rw [Sd.rack, if_neg hn, w2, w3]; rfl

theorem rack_gives_z (hE : Plain E) (k b m i r : Int) (h : okN 0 k b m = true) (hi : 0 ≤ i ∧ i < 18446744073709551616) :
    Gives Try.prog E ra base 1 16 [.ptr (.own 0 0 0 0), .int .u64 i, .int .i64 r] (hp 0 [rzBlk k b m]) fun v h' => v = .int .i64 (ackE 0 k b i r) ∧ h' = hp 0 (Rx.ack (.z k b m) i r).bs := by
  have hT : ToldsOK Try.prog E ra base 1 T16z := sumT_ok noT_ok rfl (toldR_ok (c := .loop (codeOf 16 (false :: pRA))) (by kernel_rfl) fun y hy => za_loop hE y hy)
  refine gives_of_treeQ hE (W_ok sumNone_ok noL_ok) hT (hp_below _) (rack_z E k b m i r) ?_
  obtain ⟨_, h2, h3, h4, h5, h6, h7⟩ := okN_iff.1 h
  obtain ⟨i1, i2⟩ := hi
  have w1 : wr .u64 (b + 0) = b := by rw [Int.add_zero]; exact wr_u64 (by omega)
  have bad : badA 0 k b i r = true → ackE 0 k b i r = 2 ∧ Rx.ack (.z k b m) i r = .z k b m := fun hb => ⟨by rw [ackE, if_pos hb], by rw [Rx.ack, fB, if_pos hb]⟩
  simp only [TreeQ.holds, decide_true, Bool.and_self, Bool.and_true, Bool.true_and, true_and, decide_eq_true_eq, decide_eq_false_iff_not, w1]
  refine ⟨fun a => ?_, fun a => ⟨fun d => ?_, fun d => ⟨fun e => ?_, fun e => ⟨by omega, fun _ _ => ?_⟩⟩⟩⟩
  · obtain ⟨q1, q2⟩ := bad (badA_iff.2 (.inl (by omega)))
    exact ⟨_, rfl, by rw [q1], by rw [q2]; rfl⟩
  · obtain ⟨q1, q2⟩ := bad (badA_iff.2 (.inr (.inl d)))
    exact ⟨_, rfl, by rw [q1], by rw [q2]; rfl⟩
  · obtain ⟨q1, q2⟩ := bad (badA_iff.2 (.inr (.inr e)))
    exact ⟨_, rfl, by rw [q1], by rw [q2]; rfl⟩
  · have hn : badA 0 k b i r ≠ true := fun hh => by have := badA_iff.1 hh; omega
    have w2 : wr .u64 r = r := wr_u64 (by omega)
    have w3 : wr .u64 (i + r) = i + r := wr_u64 (by omega)
    refine ⟨_, rfl, by rw [ackE, if_neg hn], ?_⟩
    rw [Rx.ack, fB, if_neg hn, w2, w3]; rfl

theorem rnew_gives (hE : Plain E) (n : Int) : (newOk n = true → Gives Try.prog E ra base 0 8 [.int .i64 n] (hp 0 []) fun v h' => v = .ptr (.own 0 0 0 0) ∧ h' = hp 0 [rzBlk n 0 n]) ∧
    ((!newOk n) = true → Gives Try.prog E ra base 0 8 [.int .i64 n] (hp 0 []) fun v h' => v = .nilp ∧ h' = hp 0 []) := by
  have hi : newOk n = true ↔ 1 ≤ n ∧ n ≤ 16 := by simp only [newOk, Bool.and_eq_true, decide_eq_true_eq]
  constructor
  · intro h
    obtain ⟨h1, h2⟩ := hi.1 h
    refine (gives_of_tree hE (W_ok sumNone_ok noL_ok) sumNone_ok (hp_below _) (rnew_call E n) ?_).2
    have w : wr .u64 n = n := wr_u64 (by omega)
    simp only [Tree.holds, decide_eq_true_eq, decide_eq_false_iff_not]
    refine ⟨fun k => absurd k (by omega), fun _ => ⟨fun k => absurd k (by omega), fun _ => ⟨_, rfl, rfl, ?_⟩⟩⟩
    rw [w]; rfl
  · intro h
    have h' : ¬ (1 ≤ n ∧ n ≤ 16) := fun hh => by rw [hi.2 hh] at h; cases h
    refine (gives_of_tree hE (W_ok sumNone_ok noL_ok) sumNone_ok (hp_below _) (rnew_call E n) ?_).2
    simp only [Tree.holds, decide_eq_true_eq, decide_eq_false_iff_not]
    exact ⟨fun _ => ⟨_, rfl, rfl, rfl⟩, fun a => ⟨fun _ => ⟨_, rfl, rfl, rfl⟩, fun b => absurd (by omega) h'⟩⟩

theorem S3_ok (hE : Plain E) : SumsOK Try.prog E ra base S3 := by
  refine sumG_deal hE (sumG_deal hE (sumG_deal hE (sum2_deal hE (S2_ok hE) ⟨_, Try.func8, by kernel_rfl⟩ (fun n h => (rnew_gives hE n).1 h) fun n h => (rnew_gives hE n).2 h) ⟨_, Try.func13, by kernel_rfl⟩ fun y hy => ?_) ⟨_, Try.func16, by kernel_rfl⟩ fun y hy => ?_) ⟨_, Try.func14, by kernel_rfl⟩ fun y hy => ?_
  · obtain ⟨x, i, r⟩ := y
    simp only [rnextD, Bool.and_eq_true] at hy
    cases x with
    | z k b m =>
      have hT : ToldsOK Try.prog E ra base 1 T13z := sumT_ok noT_ok rfl (toldR_ok (c := .loop (codeOf 13 (false :: pRN))) (by kernel_rfl) fun y hy => zn_loop hE y hy)
      refine gives_of_treeQ hE (W_ok sumNone_ok noL_ok) hT (hp_below _) (rnext_z E k b m i) ?_
      have h0 : okN 0 k b m = true := hy.1
      simp only [TreeQ.holds, decide_true, Bool.and_self, Bool.and_true, Bool.true_and, true_and, h0]
      exact fun _ _ => ⟨_, rfl, rfl, rfl⟩
    | q x =>
      have h0 : okSd x = true := by have := hy.1; simp only [Rx.ok, Bool.and_eq_true] at this; exact this.1
      exact rnext_gives hE x i h0
  · obtain ⟨x, i, r⟩ := y
    simp only [rackD, Bool.and_eq_true] at hy
    have hu := u64_iff.1 hy.2.1
    cases x with
    | z k b m => exact rack_gives_z hE k b m i r hy.1 hu
    | q x =>
      obtain ⟨ts, o, n, c, k, b, m⟩ := x
      have h0 := hy.1
      simp only [Rx.ok, Bool.and_eq_true, decide_eq_true_eq] at h0
      obtain ⟨h0, rfl⟩ := h0
      exact rack_gives hE ts o n k b m i r h0 hu
  · obtain ⟨k, t⟩ := y
    exact (gives_of_tree hE (W_ok sumNone_ok noL_ok) sumNone_ok (hp_below _) (same_call E k t) ⟨decide_eq_true rfl, decide_eq_true rfl, _, rfl, rfl, rfl⟩).2
end

end Go.Proofs.Ytoahbijmemgghaa
