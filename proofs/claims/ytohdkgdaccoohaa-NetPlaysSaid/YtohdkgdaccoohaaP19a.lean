/- net: its functions keep their contracts. -/
import Derived.Test.YtohdkgdaccoohaaT19a
set_option linter.unusedSimpArgs false
namespace Go.Proofs.Ytohdkgdaccoohaa
open Ab

theorem okNt_iff {y : Nt} : okNt y = true ↔ y.n ≤ y.xs.length ∧ y.xs.length ≤ 64 ∧ 4 ≤ y.xs.length ∧ 0 ≤ y.s ∧ y.s ≤ 100000 ∧ 0 ≤ y.l ∧ y.l ≤ 100000 := by
  simp only [okNt, Bool.and_eq_true, decide_eq_true_eq]

theorem putS_len {xs : List ByteArray} {i : Nat} (h : i < xs.length) (t : ByteArray) : (putS xs i t).length = xs.length := by
  simp only [putS, List.length_append, List.length_take, List.length_cons, List.length_nil, List.length_drop]; omega
theorem shut_len {xs : List ByteArray} {n k : Nat} (h : k < n) (h' : n ≤ xs.length) : (shut xs n k).length = xs.length := by
  simp only [shut, List.length_append, List.length_take, List.length_drop]; omega
theorem room_iff {y : Nt} : y.room = true ↔ y.n < y.xs.length := by simp only [Nt.room, decide_eq_true_eq]
theorem has_iff {y : Nt} {k : Int} : y.has k = true ↔ 0 ≤ k ∧ k < y.n := by simp only [Nt.has, Bool.and_eq_true, decide_eq_true_eq]
theorem has_no {y : Nt} {k : Int} : y.has k = false ↔ ¬ (0 ≤ k ∧ k < y.n) := by rw [← has_iff, Bool.not_eq_true]

section
variable {E : Nat → Nat → Seg} {ra : Nat → Nat → Nat × Nat} {base : Nat}

theorem one_up {v : Int} (h0 : 0 ≤ v) (h1 : v ≤ 100000) : wr .i64 (v + 1) = v + 1 := wr_in ⟨by omega, by omega⟩

theorem send_gives (hE : Plain E) (x : NtS) (h : okNt x.y = true) : Gives Try.prog E ra base 2 8 (sendD.args x) (hp 0 (sendD.blks x)) fun v h' => v = sendD.out x ∧ h' = hp 0 (sendD.blks' x) := by
  obtain ⟨y, t⟩ := x
  obtain ⟨h1, h2, h3, h4, h5, h6, h7⟩ := okNt_iff.1 h
  simp only at h1 h2 h3 h4 h5 h6 h7
  refine (gives_of_tree hE (W_ok sumNone_ok noL_ok) sumNone_ok (hp_below _) (send_call E y t) ?_).2
  rw [one_up h4 h5, one_up h6 h7]
  simp only [Tree.holds, decide_eq_true_eq, decide_eq_false_iff_not]
  by_cases hr : y.n < y.xs.length
  · have hroom := room_iff.2 hr
    have hs : y.send t = ⟨y.n + 1, putS y.xs y.n t, y.s + 1, y.l⟩ := by rw [Nt.send, if_pos hroom]
    have hb : Nat.ble (y.n + 1) y.xs.length = true := Nat.ble_eq_true_of_le hr
    have hl := putS_len hr t
    refine ⟨fun a => absurd a (by omega), fun _ => ?_⟩
    have fin : ∃ v, mkT 1 [(0, .bool true)] = [v] ∧ v = sendD.out ⟨y, t⟩ ∧ ([(0, some (.segs [⟨1, 1, [.val [.slice (.own 1 0 0 1) (y.n + 1) (some y.xs.length)]]⟩, ⟨2, 1, [.int .i64 [y.s + 1, y.l]]⟩])), (1, some (.segs [⟨y.xs.length, 1, [.str (y.xs.take (0 + y.n) ++ (List.take 1 (List.drop 0 [t]) ++ y.xs.drop (0 + y.n + (List.take 1 (List.drop 0 [t])).length)))]⟩]))] : Log) = hp 0 (sendD.blks' ⟨y, t⟩) := by
      refine ⟨_, rfl, ?_, ?_⟩
      · simp only [sendD, hroom]
      · simp only [sendD, hs, Nt.blks, Nt.b0, Nt.b1, hl, Nat.zero_add]; rfl
    simp only [hb, Bool.true_eq_false, false_implies, and_true, forall_const, reduceCtorEq]
    exact ⟨by omega, fin⟩
  · have hroom : y.room = false := Bool.eq_false_iff.2 fun hh => hr (room_iff.1 hh)
    have hs : y.send t = ⟨y.n, y.xs, y.s + 1, y.l + 1⟩ := by rw [Nt.send, if_neg (by rw [hroom]; decide)]
    exact ⟨fun a => ⟨_, rfl, by simp only [sendD, hroom], by simp only [sendD, hs]; rfl⟩, fun a => absurd a (by omega)⟩

theorem deliver_gives (hE : Plain E) (x : NtK) (h : okNt x.y = true) : Gives Try.prog E ra base 2 10 (deliverD.args x) (hp 0 (deliverD.blks x)) fun v h' => v = deliverD.out x ∧ h' = hp 0 (deliverD.blks' x) := by
  obtain ⟨y, k⟩ := x
  obtain ⟨h1, h2, h3, h4, h5, h6, h7⟩ := okNt_iff.1 h
  simp only at h1 h2 h3 h4 h5 h6 h7
  refine (gives_of_tree hE (W_ok sumNone_ok noL_ok) sumNone_ok (hp_below _) (deliver_call E y k) ?_).2
  by_cases hk : 0 ≤ k ∧ k < y.n
  · have hh := has_iff.2 hk
    obtain ⟨j, rfl⟩ := Int.eq_ofNat_of_zero_le hk.1
    have hj : j < y.n := by omega
    have e1 : wr .i64 ((j : Int) + 1) = ((j + 1 : Nat) : Int) := by rw [wr_in ⟨by omega, by omega⟩]; omega
    have e2 : wr .i64 ((y.n : Int) - 1) = ((y.n - 1 : Nat) : Int) := by rw [wr_in ⟨by omega, by omega⟩]; omega
    have e3 : wr .i64 (y.l + 1) = y.l + 1 := one_up h6 h7
    have e4 : min (y.n - (j + 1)) (y.n - j) = y.n - (j + 1) := by omega
    have e5 : ((y.xs.drop (j + 1)).take (y.n - (j + 1))).length = y.n - (j + 1) := by rw [List.length_take, List.length_drop]; omega
    have e6 : j + (y.n - (j + 1)) = y.n - 1 := by omega
    have hl := shut_len hj h1
    rw [e1, e2]
    try rw [e3]
    rw [Int.toNat_natCast, Int.toNat_natCast, Int.toNat_natCast]
    simp only [Nat.zero_add]
    rw [e4, e5, e6]
    clear e1 e2 e3
    simp only [Tree.holds, decide_eq_true_eq, decide_eq_false_iff_not, Bool.and_eq_true]
    refine ⟨fun a => absurd a (by omega), fun _ => ⟨fun a => absurd a (by omega), fun _ => ⟨by omega, by omega, by omega, by omega, by omega, by omega, by omega, by omega, _, rfl, ?_, ?_⟩⟩⟩
    · simp only [deliverD, nkD, Nt.text, Nt.err, if_pos hh, Int.toNat_natCast]; rfl
    · have : y.del (j : Int) = ⟨y.n - 1, shut y.xs y.n j, y.s, y.l⟩ := by rw [Nt.del, if_pos hh]; rfl
      simp only [deliverD, nkD, this, Nt.blks, Nt.b0, Nt.b1, hl]; rfl
  · have hh := has_no.2 hk
    have hd : y.del k = y := by rw [Nt.del, hh]; rfl
    have fin : ∃ v, mkT 1 [(0, .tup [.str noTx, .int .i64 2])] = [v] ∧ v = deliverD.out ⟨y, k⟩ ∧ hp 0 y.blks = hp 0 (deliverD.blks' ⟨y, k⟩) := ⟨_, rfl, by simp only [deliverD, nkD, Nt.text, Nt.err, hh]; rfl, by simp only [deliverD, nkD, hd]⟩
    exact ⟨fun _ => fin, fun a => ⟨fun _ => fin, fun b => absurd ⟨by have := of_decide_eq_false a; omega, by have := of_decide_eq_false b; omega⟩ hk⟩⟩

theorem lose_gives (hE : Plain E) (x : NtK) (h : okNt x.y = true) : Gives Try.prog E ra base 2 12 (loseD.args x) (hp 0 (loseD.blks x)) fun v h' => v = loseD.out x ∧ h' = hp 0 (loseD.blks' x) := by
  obtain ⟨y, k⟩ := x
  obtain ⟨h1, h2, h3, h4, h5, h6, h7⟩ := okNt_iff.1 h
  simp only at h1 h2 h3 h4 h5 h6 h7
  refine (gives_of_tree hE (W_ok sumNone_ok noL_ok) sumNone_ok (hp_below _) (lose_call E y k) ?_).2
  by_cases hk : 0 ≤ k ∧ k < y.n
  · have hh := has_iff.2 hk
    obtain ⟨j, rfl⟩ := Int.eq_ofNat_of_zero_le hk.1
    have hj : j < y.n := by omega
    have e1 : wr .i64 ((j : Int) + 1) = ((j + 1 : Nat) : Int) := by rw [wr_in ⟨by omega, by omega⟩]; omega
    have e2 : wr .i64 ((y.n : Int) - 1) = ((y.n - 1 : Nat) : Int) := by rw [wr_in ⟨by omega, by omega⟩]; omega
    have e3 : wr .i64 (y.l + 1) = y.l + 1 := one_up h6 h7
    have e4 : min (y.n - (j + 1)) (y.n - j) = y.n - (j + 1) := by omega
    have e5 : ((y.xs.drop (j + 1)).take (y.n - (j + 1))).length = y.n - (j + 1) := by rw [List.length_take, List.length_drop]; omega
    have e6 : j + (y.n - (j + 1)) = y.n - 1 := by omega
    have hl := shut_len hj h1
    rw [e1, e2]
    try rw [e3]
    rw [Int.toNat_natCast, Int.toNat_natCast, Int.toNat_natCast]
    simp only [Nat.zero_add]
    rw [e4, e5, e6]
    clear e1 e2 e3
    simp only [Tree.holds, decide_eq_true_eq, decide_eq_false_iff_not, Bool.and_eq_true]
    refine ⟨fun a => absurd a (by omega), fun _ => ⟨fun a => absurd a (by omega), fun _ => ⟨by omega, by omega, by omega, by omega, by omega, by omega, by omega, by omega, _, rfl, ?_, ?_⟩⟩⟩
    · simp only [loseD, nkD, Nt.err, if_pos hh]
    · have : y.lose (j : Int) = ⟨y.n - 1, shut y.xs y.n j, y.s, y.l + 1⟩ := by rw [Nt.lose, if_pos hh]; rfl
      simp only [loseD, nkD, this, Nt.blks, Nt.b0, Nt.b1, hl]; rfl
  · have hh := has_no.2 hk
    have hd : y.lose k = y := by rw [Nt.lose, hh]; rfl
    have fin : ∃ v, mkT 1 [(0, .int .i64 2)] = [v] ∧ v = loseD.out ⟨y, k⟩ ∧ hp 0 y.blks = hp 0 (loseD.blks' ⟨y, k⟩) := ⟨_, rfl, by simp only [loseD, nkD, Nt.text, Nt.err, hh]; rfl, by simp only [loseD, nkD, hd]⟩
    exact ⟨fun _ => fin, fun a => ⟨fun _ => fin, fun b => absurd ⟨by have := of_decide_eq_false a; omega, by have := of_decide_eq_false b; omega⟩ hk⟩⟩

theorem twice_gives (hE : Plain E) (x : NtK) (h : okNt x.y = true) : Gives Try.prog E ra base 2 14 (twiceD.args x) (hp 0 (twiceD.blks x)) fun v h' => v = twiceD.out x ∧ h' = hp 0 (twiceD.blks' x) := by
  obtain ⟨y, k⟩ := x
  obtain ⟨h1, h2, h3, h4, h5, h6, h7⟩ := okNt_iff.1 h
  simp only at h1 h2 h3 h4 h5 h6 h7
  refine (gives_of_tree hE (W_ok sumNone_ok noL_ok) sumNone_ok (hp_below _) (twice_call E y k) ?_).2
  by_cases hk : 0 ≤ k ∧ k < y.n
  · have hh := has_iff.2 hk
    obtain ⟨j, rfl⟩ := Int.eq_ofNat_of_zero_le hk.1
    have hj : j < y.n := by omega
    rw [one_up h4 h5, Int.toNat_natCast]
    simp only [Nat.zero_add]
    simp only [Tree.holds, decide_eq_true_eq, decide_eq_false_iff_not, Bool.and_eq_true]
    refine ⟨fun a => absurd a (by omega), fun _ => ⟨fun a => absurd a (by omega), fun _ => ⟨by omega, by omega, fun a => ?_, fun a => ⟨a, ?_⟩⟩⟩⟩
    · have hroom : y.room = false := Bool.eq_false_iff.2 fun hh => by have := room_iff.1 hh; omega
      refine ⟨_, rfl, ?_, ?_⟩
      · simp only [twiceD, nkD, Nt.terr, if_pos hh, hroom]; rfl
      · simp only [twiceD, nkD, Nt.twice, hroom, Bool.and_false]; rfl
    · have hr : y.n < y.xs.length := by omega
      have hroom := room_iff.2 hr
      have hb : Nat.ble (y.n + 1) y.xs.length = true := Nat.ble_eq_true_of_le hr
      have hl := putS_len hr (y.xs.getD j noTx)
      have ht : y.twice (j : Int) = ⟨y.n + 1, putS y.xs y.n (y.xs.getD j noTx), y.s + 1, y.l⟩ := by
        rw [Nt.twice, hh, hroom, Nt.send, if_pos hroom]; rfl
      simp only [hb, Bool.true_eq_false, false_implies, and_true, forall_const, reduceCtorEq]
      refine ⟨by omega, _, rfl, ?_, ?_⟩
      · simp only [twiceD, nkD, Nt.terr, if_pos hh, if_pos hroom]
      · simp only [twiceD, nkD, ht, Nt.blks, Nt.b0, Nt.b1, hl]; rfl
  · have hh := has_no.2 hk
    have hd : y.twice k = y := by rw [Nt.twice, hh]; rfl
    have fin : ∃ v, mkT 1 [(0, .int .i64 2)] = [v] ∧ v = twiceD.out ⟨y, k⟩ ∧ hp 0 y.blks = hp 0 (twiceD.blks' ⟨y, k⟩) := ⟨_, rfl, by simp only [twiceD, nkD, Nt.terr, hh]; rfl, by simp only [twiceD, nkD, hd]⟩
    exact ⟨fun _ => fin, fun a => ⟨fun _ => fin, fun b => absurd ⟨by have := of_decide_eq_false a; omega, by have := of_decide_eq_false b; omega⟩ hk⟩⟩

theorem copy_len {y : Nt} (h : y.n ≤ y.xs.length) : y.copy.xs.length = y.xs.length := by
  simp only [Nt.copy, List.length_append, List.length_take, List.length_replicate]; omega

theorem copy_gives (hE : Plain E) (y : Nt) (h : okNt y = true) : Gives Try.prog E ra base 2 16 (copyD.args y) (hp 0 (copyD.blks y)) fun v h' => v = copyD.out y ∧ h' = hp 0 (copyD.blks' y) := by
  obtain ⟨h1, h2, h3, h4, h5, h6, h7⟩ := okNt_iff.1 h
  have hl := copy_len h1
  by_cases h0 : y.n = 0
  · obtain ⟨n, xs, s, l⟩ := y
    simp only at h0 h1 h2 h3
    subst h0
    refine (gives_of_tree hE (W_ok sumNone_ok noL_ok) sumNone_ok (hp_below _) (copy_call0 E xs s l) ?_).2
    simp only [Tree.holds, decide_eq_true_eq, decide_eq_false_iff_not, Bool.and_eq_true]
    refine ⟨by omega, by omega, by omega, by omega, _, rfl, rfl, ?_⟩
    have e : (⟨0, xs, s, l⟩ : Nt).copy = ⟨0, List.replicate xs.length noTx, s, l⟩ := by simp only [Nt.copy, List.take_zero, List.nil_append, Nat.sub_zero]
    simp only [copyD, e, Nt.b1, List.length_replicate]; rfl
  · refine (gives_of_tree hE (W_ok sumNone_ok noL_ok) sumNone_ok (hp_below _) (copy_call E y) ?_).2
    have b1 : Nat.ble y.n 0 = false := by
      cases hh : Nat.ble y.n 0 with
      | false => rfl
      | true => have := Nat.le_of_ble_eq_true hh; omega
    have b2 : Nat.ble y.n y.xs.length = true := Nat.ble_eq_true_of_le h1
    have e1 : (y.xs.take y.n).take y.n = y.xs.take y.n := by rw [List.take_take, Nat.min_self]
    have e2 : (y.xs.take y.n).length = y.n := by rw [List.length_take]; omega
    simp only [Tree.holds, b1, b2, decide_eq_true_eq, decide_eq_false_iff_not, Bool.and_eq_true, Nat.zero_add, List.drop_zero, e1, e2, Bool.true_eq_false, false_implies, and_true, forall_const]
    refine ⟨by omega, by omega, by omega, by omega, trivial, by omega, h1, h1, Nat.le_refl _, _, rfl, rfl, ?_⟩
    have e3 : y.copy.xs = y.xs.take y.n ++ List.drop y.n (List.replicate y.xs.length noTx) := by rw [List.drop_replicate]; rfl
    have hl' := hl
    rw [e3] at hl'
    simp only [copyD, Nt.b1, e3, hl']
    rfl

theorem newOk_iff {c : Int} : newOk c = true ↔ 4 ≤ c ∧ c ≤ 64 := by simp only [newOk, Bool.and_eq_true, decide_eq_true_eq]

theorem new_gives (hE : Plain E) (c : Int) : (newOk c = true → Gives Try.prog E ra base 0 6 (newD.args c) (hp 0 []) fun v h' => v = newD.out c ∧ h' = hp 0 (newD.blks' c)) ∧
    (newOk c = false → Gives Try.prog E ra base 0 6 (newD.args c) (hp 0 []) fun v h' => v = .nilp ∧ h' = hp 0 []) := by
  constructor
  · intro h
    obtain ⟨h1, h2⟩ := newOk_iff.1 h
    refine (gives_of_tree hE (W_ok sumNone_ok noL_ok) sumNone_ok (hp_below _) (new_call E c) ?_).2
    simp only [Tree.holds, decide_eq_true_eq, decide_eq_false_iff_not, Bool.and_eq_true]
    refine ⟨fun a => absurd a (by omega), fun _ => ⟨fun a => absurd a (by omega), fun _ => ⟨by omega, by omega, _, rfl, rfl, ?_⟩⟩⟩
    simp only [newD, Nt.b1, newNt, List.length_replicate]; rfl
  · intro h
    have h : ¬ (4 ≤ c ∧ c ≤ 64) := fun hh => by rw [newOk_iff.2 hh] at h; cases h
    refine (gives_of_tree hE (W_ok sumNone_ok noL_ok) sumNone_ok (hp_below _) (new_call E c) ?_).2
    simp only [Tree.holds, decide_eq_true_eq, decide_eq_false_iff_not, Bool.and_eq_true]
    exact ⟨fun _ => ⟨_, rfl, rfl, rfl⟩, fun a => ⟨fun _ => ⟨_, rfl, rfl, rfl⟩, fun b => by omega⟩⟩

theorem works_true : evalTrue (callB Try.prog E noS (W E noS noL) 20 []) = true := by kernel_rfl

theorem S1_ok (hE : Plain E) : SumsOK Try.prog E ra base S1 := by
  refine sumG_deal hE (sumG_deal hE (sumG_deal hE (sumG_deal hE (sumG_deal hE (sumG_deal hE (sumG_deal hE (sumG_deal hE (sumG_deal hE (sumNG_deal hE sumNone_ok ⟨_, Try.func6, by kernel_rfl⟩ ?_ ?_) ⟨_, Try.func8, by kernel_rfl⟩ fun x hx => send_gives hE x hx)
    ⟨_, Try.func10, by kernel_rfl⟩ fun x hx => deliver_gives hE x hx) ⟨_, Try.func12, by kernel_rfl⟩ fun x hx => lose_gives hE x hx) ⟨_, Try.func14, by kernel_rfl⟩ fun x hx => twice_gives hE x hx) ⟨_, Try.func16, by kernel_rfl⟩ fun x hx => copy_gives hE x hx)
    ⟨_, Try.func17, by kernel_rfl⟩ fun x _ => ?_) ⟨_, Try.func18, by kernel_rfl⟩ fun x _ => ?_) ⟨_, Try.func19, by kernel_rfl⟩ fun x _ => ?_) ⟨_, Try.func20, by kernel_rfl⟩ fun _ _ => (gives_of_eval hE (W_ok sumNone_ok noL_ok) sumNone_ok works_true).2
  · intro q hq
    simp only [List.mem_cons, List.not_mem_nil, or_false] at hq
    subst hq
    intro c hc
    exact (new_gives hE c).1 hc
  · intro c hc
    simp only [new0D, Bool.not_eq_true'] at hc
    exact (new_gives hE c).2 hc
  · exact (gives_of_tree hE (W_ok sumNone_ok noL_ok) sumNone_ok (hp_below _) (len_call E x) ⟨_, rfl, rfl, rfl⟩).2
  · exact (gives_of_tree hE (W_ok sumNone_ok noL_ok) sumNone_ok (hp_below _) (sent_call E x) ⟨_, rfl, rfl, rfl⟩).2
  · exact (gives_of_tree hE (W_ok sumNone_ok noL_ok) sumNone_ok (hp_below _) (lost_call E x) ⟨_, rfl, rfl, rfl⟩).2
theorem wE (hE : Plain E) {S : Sums} (hS : SumsOK Try.prog E ra base S) : ExecOK Try.prog E ra base (W E S noL) := W_ok hS noL_ok
end
end Go.Proofs.Ytohdkgdaccoohaa
