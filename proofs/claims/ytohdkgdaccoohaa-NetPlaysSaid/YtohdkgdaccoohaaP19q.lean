/- net: NetPlays: the two nets stay alike. -/
import Derived.Test.YtohdkgdaccoohaaP19p
import Derived.Test.YtohdkgdaccoohaaD19q
set_option linter.unusedSimpArgs false
set_option linter.unusedVariables false
namespace Go.Proofs.Ytohdkgdaccoohaa
open Ab

theorem relB_iff {y : Nt} {c s l : Int} {f : Rf} {i : Nat} : relB y ⟨c, f, s, l⟩ i = true ↔ okRf f = true ∧ f.list = y.lv ∧ s = y.s ∧ l = y.l ∧ c = (y.xs.length : Nat) ∧ y.n ≤ y.xs.length ∧ 4 ≤ y.xs.length ∧ y.xs.length ≤ 64 ∧ 0 ≤ y.s ∧ y.s ≤ i ∧ 0 ≤ y.l ∧ y.l ≤ i := by
  simp only [relB, Bool.and_eq_true, decide_eq_true_eq]

section
variable {y : Nt} {c s l : Int} {f : Rf} {i : Nat}

theorem rel_len (h : relB y ⟨c, f, s, l⟩ i = true) : f.list.length = y.n := by
  obtain ⟨h1, h2, h3, h4, h5, h6, h7, h8, h9, h10, h11, h12⟩ := relB_iff.1 h
  rw [h2, Nt.lv, List.length_take]; omega
theorem rel_nt (h : relB y ⟨c, f, s, l⟩ i = true) (hi : i ≤ 1000) : okNt y = true := by
  obtain ⟨h1, h2, h3, h4, h5, h6, h7, h8, h9, h10, h11, h12⟩ := relB_iff.1 h
  exact okNt_iff.2 ⟨h6, h8, h7, h9, by omega, h11, by omega⟩
theorem rel_rr (h : relB y ⟨c, f, s, l⟩ i = true) (hi : i ≤ 1000) : okRr ⟨c, f, s, l⟩ = true := by
  have hl := rel_len h
  obtain ⟨h1, h2, h3, h4, h5, h6, h7, h8, h9, h10, h11, h12⟩ := relB_iff.1 h
  exact okRr_iff.2 ⟨h1, by simp only; omega, by simp only; omega, by simp only; omega, by simp only; omega, by simp only; omega, by simp only; omega, by simp only; omega⟩
theorem rel_room (h : relB y ⟨c, f, s, l⟩ i = true) : y.room = !fullF c f := by
  have hl := rel_len h
  obtain ⟨h1, h2, h3, h4, h5, h6, h7, h8, h9, h10, h11, h12⟩ := relB_iff.1 h
  cases f with
  | n => exact room_iff.2 (by have : y.n = 0 := hl.symm; omega)
  | e => exact room_iff.2 (by have : y.n = 0 := hl.symm; omega)
  | g L =>
    have hl : L.length = y.n := hl
    show decide (y.n < y.xs.length) = !decide (c ≤ (L.length : Nat))
    by_cases hh : y.n < y.xs.length
    · rw [decide_eq_true hh, decide_eq_false (by omega)]; rfl
    · rw [decide_eq_false hh, decide_eq_true (by omega)]; rfl
theorem rel_has (h : relB y ⟨c, f, s, l⟩ i = true) (k : Int) : y.has k = hasF k f := by
  have hl := rel_len h
  cases f with
  | n => exact has_no.2 (by have : y.n = 0 := hl.symm; omega)
  | e => exact has_no.2 (by have : y.n = 0 := hl.symm; omega)
  | g L =>
    have hl : L.length = y.n := hl
    show (decide (0 ≤ k) && decide (k < (y.n : Nat))) = (decide (0 ≤ k) && decide (k < (L.length : Nat)))
    rw [hl]
theorem rel_at (h : relB y ⟨c, f, s, l⟩ i = true) {m : Nat} (hm : m < y.n) : y.xs.getD m noTx = f.list.getD m noTx := by
  obtain ⟨h1, h2, h3, h4, h5, h6, h7, h8, h9, h10, h11, h12⟩ := relB_iff.1 h
  have h2 : f.list = y.lv := h2
  rw [h2, Nt.lv, List.getD_eq_getElem?_getD, List.getD_eq_getElem?_getD, List.getElem?_take_of_lt hm]

theorem rel_same (h : relB y ⟨c, f, s, l⟩ i = true) : relB y ⟨c, f, s, l⟩ (i + 1) = true := by
  obtain ⟨h1, h2, h3, h4, h5, h6, h7, h8, h9, h10, h11, h12⟩ := relB_iff.1 h
  exact relB_iff.2 ⟨h1, h2, h3, h4, h5, h6, h7, h8, h9, by omega, h11, by omega⟩
theorem rel_mono (h : relB y ⟨c, f, s, l⟩ i = true) {j : Nat} (hj : i ≤ j) : relB y ⟨c, f, s, l⟩ j = true := by
  obtain ⟨h1, h2, h3, h4, h5, h6, h7, h8, h9, h10, h11, h12⟩ := relB_iff.1 h
  exact relB_iff.2 ⟨h1, h2, h3, h4, h5, h6, h7, h8, h9, by omega, h11, by omega⟩
theorem lv_send (hr : y.n < y.xs.length) (t : ByteArray) : (y.send t).lv = y.lv ++ [t] := by
  rw [Nt.send, if_pos (room_iff.2 hr)]
  exact live_send hr t
theorem rel_send (h : relB y ⟨c, f, s, l⟩ i = true) (hr : y.room = true) (t : ByteArray) : relB (y.send t) ⟨c, .g (f.list ++ [t]), s + 1, l⟩ (i + 1) = true := by
  obtain ⟨h1, h2, h3, h4, h5, h6, h7, h8, h9, h10, h11, h12⟩ := relB_iff.1 h
  have hr' := room_iff.1 hr
  have hl := putS_len hr' t
  have e : y.send t = ⟨y.n + 1, putS y.xs y.n t, y.s + 1, y.l⟩ := by rw [Nt.send, if_pos hr]
  have hlv := lv_send hr' t
  rw [e] at hlv ⊢
  refine relB_iff.2 ⟨?_, ?_, by simp only; omega, by simp only; omega, by simp only; omega, by simp only; omega, by simp only; omega, by simp only; omega, by simp only; omega, by simp only; omega, by simp only; omega, by simp only; omega⟩
  · show decide (0 < (f.list ++ [t]).length) = true
    rw [List.length_append]
    exact decide_eq_true (Nat.succ_pos _)
  · rw [hlv, ← h2]; rfl
theorem rel_full (h : relB y ⟨c, f, s, l⟩ i = true) (hr : y.room = false) (t : ByteArray) : relB (y.send t) ⟨c, f, s + 1, l + 1⟩ (i + 1) = true := by
  obtain ⟨h1, h2, h3, h4, h5, h6, h7, h8, h9, h10, h11, h12⟩ := relB_iff.1 h
  have e : y.send t = ⟨y.n, y.xs, y.s + 1, y.l + 1⟩ := by rw [Nt.send, if_neg (by rw [hr]; decide)]
  rw [e]
  exact relB_iff.2 ⟨h1, h2, by simp only; omega, by simp only; omega, h5, h6, h7, h8, by simp only; omega, by simp only; omega, by simp only; omega, by simp only; omega⟩
theorem rel_del (h : relB y ⟨c, f, s, l⟩ i = true) {m : Nat} (hm : m < y.n) {f' : Rf} (hf : okRf f' = true) (hl' : f'.list = f.list.eraseIdx m) : relB (y.del m) ⟨c, f', s, l⟩ (i + 1) = true := by
  obtain ⟨h1, h2, h3, h4, h5, h6, h7, h8, h9, h10, h11, h12⟩ := relB_iff.1 h
  have hh : y.has m = true := has_iff.2 ⟨by omega, by omega⟩
  have e : y.del m = ⟨y.n - 1, shut y.xs y.n m, y.s, y.l⟩ := by rw [Nt.del, if_pos hh, Int.toNat_natCast]; rfl
  have hl := shut_len hm h6
  rw [e]
  refine relB_iff.2 ⟨hf, ?_, h3, h4, by simp only; omega, by simp only; omega, by simp only; omega, by simp only; omega, h9, by simp only; omega, h11, by simp only; omega⟩
  rw [hl', h2]
  exact (live_shut hm h6).symm
theorem rel_lose (h : relB y ⟨c, f, s, l⟩ i = true) {m : Nat} (hm : m < y.n) {f' : Rf} (hf : okRf f' = true) (hl' : f'.list = f.list.eraseIdx m) : relB (y.lose m) ⟨c, f', s, l + 1⟩ (i + 1) = true := by
  obtain ⟨h1, h2, h3, h4, h5, h6, h7, h8, h9, h10, h11, h12⟩ := relB_iff.1 h
  have hh : y.has m = true := has_iff.2 ⟨by omega, by omega⟩
  have e : y.lose m = ⟨y.n - 1, shut y.xs y.n m, y.s, y.l + 1⟩ := by rw [Nt.lose, if_pos hh, Int.toNat_natCast]
  have hl := shut_len hm h6
  rw [e]
  refine relB_iff.2 ⟨hf, ?_, h3, by simp only; omega, by simp only; omega, by simp only; omega, by simp only; omega, by simp only; omega, h9, by simp only; omega, by simp only; omega, by simp only; omega⟩
  rw [hl', h2]
  exact (live_shut hm h6).symm
theorem rel_copy (h : relB y ⟨c, f, s, l⟩ i = true) : relB y.copy ⟨c, f, s, l⟩ (i + 1) = true := by
  obtain ⟨h1, h2, h3, h4, h5, h6, h7, h8, h9, h10, h11, h12⟩ := relB_iff.1 h
  have hl : (y.xs.take y.n ++ List.replicate (y.xs.length - y.n) noTx).length = y.xs.length := by
    rw [List.length_append, List.length_take, List.length_replicate]; omega
  have hlv : y.copy.lv = y.lv := live_copy h6
  refine relB_iff.2 ⟨h1, by rw [hlv]; exact h2, h3, h4, ?_, ?_, ?_, ?_, h9, ?_, h11, ?_⟩
  · simp only [Nt.copy, hl]; exact h5
  · simp only [Nt.copy, hl]; exact h6
  · simp only [Nt.copy, hl]; exact h7
  · simp only [Nt.copy, hl]; exact h8
  · show y.s ≤ ((i + 1 : Nat) : Int); omega
  · show y.l ≤ ((i + 1 : Nat) : Int); omega
theorem rel_gone (h : relB y ⟨c, f, s, l⟩ i = true) (hi : i ≤ 900) (t : ByteArray) : okNt (y.send t) = true := by
  cases hr : y.room with
  | true => exact rel_nt (rel_send h hr t) ((by omega : i + 1 ≤ 1000))
  | false => exact rel_nt (rel_full h hr t) ((by omega : i + 1 ≤ 1000))
/-- what the places say -/
theorem rel_no (h : relB y ⟨c, f, s, l⟩ i = true) {k : Int} (hk : hasF k f = false) : y.text k = noTx ∧ y.err k = 2 ∧ y.del k = y ∧ y.lose k = y ∧ y.terr k = 2 ∧ y.twice k = y := by
  have hh : ¬ y.has k = true := by rw [rel_has h, hk]; decide
  have hf : y.has k = false := by rw [rel_has h, hk]
  exact ⟨by rw [Nt.text, if_neg hh], by rw [Nt.err, if_neg hh], by rw [Nt.del, if_neg hh], by rw [Nt.lose, if_neg hh], by rw [Nt.terr, if_neg hh], by rw [Nt.twice, if_neg (by rw [hf, Bool.false_and]; decide)]⟩
theorem rel_yes (h : relB y ⟨c, f, s, l⟩ i = true) {k : Int} (hk : hasF k f = true) : ∃ m : Nat, k = m ∧ m < y.n ∧ y.text k = f.list.getD m noTx ∧ y.err k = 0 ∧ (y.room = true → y.terr k = 0 ∧ y.twice k = y.send (f.list.getD m noTx)) ∧ (y.room = false → y.terr k = 8 ∧ y.twice k = y) := by
  have hh : y.has k = true := by rw [rel_has h, hk]
  obtain ⟨k0, k1⟩ := has_iff.1 hh
  obtain ⟨m, rfl⟩ : ∃ m : Nat, k = m := ⟨k.toNat, by omega⟩
  have hm : m < y.n := by omega
  have e := rel_at h hm
  refine ⟨m, rfl, hm, by rw [Nt.text, if_pos hh, Int.toNat_natCast]; exact e, by rw [Nt.err, if_pos hh], fun hr => ⟨by rw [Nt.terr, if_pos hh, if_pos hr], ?_⟩, fun hr => ⟨by rw [Nt.terr, if_pos hh, if_neg (by rw [hr]; decide)], by rw [Nt.twice, if_neg (by rw [hh, hr]; decide)]⟩⟩
  rw [Nt.twice, if_pos (by rw [hh, hr]; rfl), Int.toNat_natCast, e]
end
end Go.Proofs.Ytohdkgdaccoohaa
