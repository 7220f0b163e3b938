/- net: NetPlays: the document's functions keep their contracts. -/
import Derived.Test.YtohdkgdaccoohaaP19d
import Derived.Test.YtohdkgdaccoohaaT19p
set_option linter.unusedSimpArgs false
set_option linter.unusedVariables false
namespace Go.Proofs.Ytohdkgdaccoohaa
open Ab

theorem okRr_iff {r : Rr} : okRr r = true ↔ okRf r.f = true ∧ r.f.list.length ≤ 64 ∧ 4 ≤ r.c ∧ r.c ≤ 64 ∧ 0 ≤ r.s ∧ r.s ≤ 100000 ∧ 0 ≤ r.l ∧ r.l ≤ 100000 := by
  simp only [okRr, Bool.and_eq_true, decide_eq_true_eq]
theorem many_in {v : Int} (h : -1000 ≤ v ∧ v ≤ 200000) : wr .i64 v = v := wr_in ⟨by omega, by omega⟩

section
variable {E : Nat → Nat → Seg} {ra : Nat → Nat → Nat × Nat} {base : Nat}

theorem send_f (hE : Plain E) (x : RrT) (h : sendFD.pre x = true) : Gives Try.prog E ra base (sendFD.blks x).length 9 (sendFD.args x) (hp 0 (sendFD.blks x)) fun v h' => v = sendFD.out x ∧ h' = hp 0 (sendFD.blks' x) := by
  obtain ⟨⟨c, f, s, l⟩, t⟩ := x
  simp only [sendFD, Bool.and_eq_true] at h
  obtain ⟨h1, h2⟩ := h
  obtain ⟨o1, o2, o3, o4, o5, o6, o7, o8⟩ := okRr_iff.1 h1
  simp only at o1 o2 o3 o4 o5 o6 o7 o8
  have e1 : wr .i64 (s + 1) = s + 1 := many_in ⟨by omega, by omega⟩
  have e2 : wr .i64 (l + 1) = l + 1 := many_in ⟨by omega, by omega⟩
  cases f with
  | n => cases h2
  | e => cases h2
  | g L =>
    refine (gives_of_tree hE (W_ok sumNone_ok noL_ok) sumNone_ok (hp_below _) (rs_g E c s l L t) ?_).2
    rw [e1, e2]
    exact ⟨fun _ => ⟨_, rfl, rfl, rfl⟩, fun hh => absurd (show decide (c ≤ (L.length : Nat)) = true from h2) (by rw [hh]; decide)⟩

theorem send_r (hE : Plain E) (x : RrT) (h : sendRD.pre x = true) : Gives Try.prog E ra base (sendRD.blks x).length 9 (sendRD.args x) (hp 0 (sendRD.blks x)) fun v h' => v = sendRD.out x ∧ h' = hp 0 (sendRD.blks' x) := by
  obtain ⟨⟨c, f, s, l⟩, t⟩ := x
  simp only [sendRD, Bool.and_eq_true, Bool.not_eq_true'] at h
  obtain ⟨h1, h2⟩ := h
  obtain ⟨o1, o2, o3, o4, o5, o6, o7, o8⟩ := okRr_iff.1 h1
  simp only at o1 o2 o3 o4 o5 o6 o7 o8
  have e1 : wr .i64 (s + 1) = s + 1 := many_in ⟨by omega, by omega⟩
  have c1 : ¬ decide (c ≤ 0) = true := fun hh => by have := of_decide_eq_true hh; omega
  cases f with
  | n =>
    refine (gives_of_tree hE (W_ok sumNone_ok noL_ok) sumNone_ok (hp_below _) (rs_n E c s l t) ?_).2
    rw [e1]
    exact ⟨fun hh => absurd hh c1, fun _ => ⟨_, rfl, rfl, rfl⟩⟩
  | e =>
    refine (gives_of_tree hE (W_ok sumNone_ok noL_ok) sumNone_ok (hp_below _) (rs_e E c s l t) ?_).2
    rw [e1]
    exact ⟨fun hh => absurd hh c1, fun _ => ⟨_, rfl, rfl, rfl⟩⟩
  | g L =>
    have k1 : ¬ c ≤ (L.length : Nat) := of_decide_eq_false h2
    have k2 : 0 < L.length := of_decide_eq_true o1
    have k3 : L.length ≤ 64 := o2
    have eL : List.take (0 + L.length) (List.drop 0 (List.take L.length (List.drop 0 L))) ++ List.take 1 (List.drop 0 [t]) = L ++ [t] := by simp
    have eN : 0 + L.length + 1 = (L ++ [t]).length := by simp
    refine (gives_of_tree hE (W_ok sumNone_ok noL_ok) sumNone_ok (hp_below _) (rs_g E c s l L t) ?_).2
    rw [e1, eL]
    refine ⟨fun hh => absurd (of_decide_eq_true hh) k1, fun _ => ⟨?_, decide_eq_true (by omega), decide_eq_true (by omega), decide_eq_true (by omega), decide_eq_true (by omega), _, rfl, rfl, ?_⟩⟩
    · cases hh : Nat.ble (0 + L.length) 0 with
      | false => rfl
      | true => have := Nat.le_of_ble_eq_true hh; omega
    · rw [eN]; rfl

theorem del_no (hE : Plain E) (x : RrK) (h : delNoD.pre x = true) : Gives Try.prog E ra base (delNoD.blks x).length 11 (delNoD.args x) (hp 0 (delNoD.blks x)) fun v h' => v = delNoD.out x ∧ h' = hp 0 (delNoD.blks' x) := by
  obtain ⟨⟨c, f, s, l⟩, k⟩ := x
  simp only [delNoD, Bool.and_eq_true, Bool.not_eq_true'] at h
  obtain ⟨h1, h2⟩ := h
  cases f with
  | n =>
    refine (gives_of_tree hE (W_ok sumNone_ok noL_ok) sumNone_ok (hp_below _) (rd_n E c s l k) ?_).2
    exact ⟨fun hh => ⟨_, rfl, rfl, rfl⟩, fun hh => ⟨decide_eq_true (by have := of_decide_eq_false hh; omega), _, rfl, rfl, rfl⟩⟩
  | e =>
    refine (gives_of_tree hE (W_ok sumNone_ok noL_ok) sumNone_ok (hp_below _) (rd_e E c s l k) ?_).2
    exact ⟨fun hh => ⟨_, rfl, rfl, rfl⟩, fun hh => ⟨decide_eq_true (by have := of_decide_eq_false hh; omega), _, rfl, rfl, rfl⟩⟩
  | g L =>
    have k1 : ¬ (0 ≤ k ∧ k < (L.length : Nat)) := fun ⟨a, b⟩ => by
      have : (decide (0 ≤ k) && decide (k < (L.length : Nat))) = false := h2
      rw [decide_eq_true a, decide_eq_true b] at this
      cases this
    refine (gives_of_tree hE (W_ok sumNone_ok noL_ok) sumNone_ok (hp_below _) (rd_x E c s l L k) ?_).2
    exact ⟨fun hh => ⟨_, rfl, rfl, rfl⟩, fun hh => ⟨decide_eq_true (by have := of_decide_eq_false hh; omega), _, rfl, rfl, rfl⟩⟩

theorem has_g {L : List ByteArray} {k : Int} (h : hasF k (.g L) = true) : ∃ m : Nat, k = m ∧ m < L.length := by
  have h : (decide (0 ≤ k) && decide (k < (L.length : Nat))) = true := h
  simp only [Bool.and_eq_true, decide_eq_true_eq] at h
  exact ⟨k.toNat, by omega, by omega⟩

theorem del_e (hE : Plain E) (x : RrK) (h : delED.pre x = true) : Gives Try.prog E ra base (delED.blks x).length 11 (delED.args x) (hp 0 (delED.blks x)) fun v h' => v = delED.out x ∧ h' = hp 0 (delED.blks' x) := by
  obtain ⟨⟨c, f, s, l⟩, k⟩ := x
  simp only [delED, Bool.and_eq_true] at h
  obtain ⟨h1, h2, h3⟩ := h
  cases f with
  | n => cases h2
  | e => cases h2
  | g L =>
    obtain ⟨m, rfl, hm⟩ := has_g h2
    have h3 : L.length = 1 := of_decide_eq_true h3
    obtain rfl : m = 0 := by omega
    refine (gives_of_tree hE (W_ok sumNone_ok noL_ok) sumNone_ok (hp_below _) (rd_0 E c s l L) ?_).2
    have eN : 0 + (L.length - 1) = 0 := by omega
    refine ⟨decide_eq_false (by omega), decide_eq_true (by omega), decide_eq_true (by omega), decide_eq_true (by omega), fun _ => ⟨decide_eq_true (by omega), decide_eq_true (by omega), _, rfl, rfl, ?_⟩, fun hh => by rw [eN] at hh; cases hh⟩
    rw [eN]; rfl

theorem del_g (hE : Plain E) (x : RrK) (h : delGD.pre x = true) : Gives Try.prog E ra base (delGD.blks x).length 11 (delGD.args x) (hp 0 (delGD.blks x)) fun v h' => v = delGD.out x ∧ h' = hp 0 (delGD.blks' x) := by
  obtain ⟨⟨c, f, s, l⟩, k⟩ := x
  simp only [delGD, Bool.and_eq_true, Bool.not_eq_true'] at h
  obtain ⟨h1, h2, h3⟩ := h
  obtain ⟨o1, o2, o3, o4, o5, o6, o7, o8⟩ := okRr_iff.1 h1
  cases f with
  | n => cases h2
  | e => cases h2
  | g L =>
    obtain ⟨m, rfl, hm⟩ := has_g h2
    have h3 : ¬ L.length = 1 := of_decide_eq_false h3
    have k3 : L.length ≤ 64 := o2
    have el : (L.eraseIdx m).length = L.length - 1 := List.length_eraseIdx_of_lt hm
    by_cases h0 : m = 0
    · subst h0
      refine (gives_of_tree hE (W_ok sumNone_ok noL_ok) sumNone_ok (hp_below _) (rd_0 E c s l L) ?_).2
      have eL : List.take (L.length - 1) (List.drop 1 L) = L.eraseIdx 0 := by
        rw [List.eraseIdx_zero, List.drop_one]
        exact List.take_of_length_le (by rw [List.length_tail]; exact Nat.le_refl _)
      have eN : 0 + (L.length - 1) = (L.eraseIdx 0).length := by omega
      rw [eL]
      refine ⟨decide_eq_false (by omega), decide_eq_true (by omega), decide_eq_true (by omega), decide_eq_true (by omega), fun hh => ?_, fun _ => ⟨decide_eq_true (by omega), decide_eq_true (by omega), _, rfl, rfl, ?_⟩⟩
      · have := Nat.le_of_ble_eq_true hh; omega
      · rw [eN]; rfl
    · refine (gives_of_tree hE (W_ok sumNone_ok noL_ok) sumNone_ok (hp_below _) (rd_k E c s l L m) ?_).2
      have e1 : wr .i64 ((m : Int) + 1) = ((m + 1 : Nat) : Int) := by rw [many_in ⟨by omega, by omega⟩]; rfl
      rw [e1]
      simp only [Int.toNat_natCast]
      have eL : List.take (0 + m) (List.drop 0 (List.take m (List.drop 0 L))) ++ List.take (L.length - (m + 1)) (List.drop (0 + (m + 1)) L) = L.eraseIdx m := by
        rw [List.eraseIdx_eq_take_drop_succ, Nat.zero_add, Nat.zero_add, List.drop_zero, List.drop_zero, List.take_take, Nat.min_self]
        have e3 : List.take (L.length - (m + 1)) (List.drop (m + 1) L) = List.drop (m + 1) L := List.take_of_length_le (by rw [List.length_drop]; exact Nat.le_refl _)
        rw [e3]
      have eN : 0 + m + (L.length - (m + 1)) = (L.eraseIdx m).length := by omega
      rw [eL]
      refine ⟨decide_eq_false (by omega), decide_eq_false (by omega), ?_, decide_eq_true (by omega), ?_, ?_, decide_eq_true (by omega), decide_eq_true (by omega), ?_, decide_eq_true (by omega), decide_eq_true (by omega), decide_eq_true (by omega), _, rfl, ?_, ?_⟩
      · simp only [Bool.and_eq_true, decide_eq_true_eq]; omega
      · simp only [Bool.and_eq_true, decide_eq_true_eq]; omega
      · cases hh : Nat.ble (0 + m) 0 with
        | false => rfl
        | true => have := Nat.le_of_ble_eq_true hh; omega
      · simp only [Bool.and_eq_true, decide_eq_true_eq]; omega
      · rw [Nat.zero_add]; rfl
      · rw [eN]; rfl

theorem newR_gives (hE : Plain E) (c : Int) : (newOk c = true → Gives Try.prog E ra base 0 7 (newRD.args c) (hp 0 []) fun v h' => v = newRD.out c ∧ h' = hp 0 (newRD.blks' c)) ∧
    (newOk c = false → Gives Try.prog E ra base 0 7 (newRD.args c) (hp 0 []) fun v h' => v = .nilp ∧ h' = hp 0 []) := by
  constructor
  · intro h
    obtain ⟨h1, h2⟩ := newOk_iff.1 h
    refine (gives_of_tree hE (W_ok sumNone_ok noL_ok) sumNone_ok (hp_below _) (rn_call E c) ?_).2
    simp only [Tree.holds, decide_eq_true_eq, decide_eq_false_iff_not, Bool.and_eq_true]
    exact ⟨fun a => absurd a (by omega), fun _ => ⟨fun a => absurd a (by omega), fun _ => ⟨_, rfl, rfl, rfl⟩⟩⟩
  · intro h
    have h : ¬ (4 ≤ c ∧ c ≤ 64) := fun hh => by rw [newOk_iff.2 hh] at h; cases h
    refine (gives_of_tree hE (W_ok sumNone_ok noL_ok) sumNone_ok (hp_below _) (rn_call E c) ?_).2
    simp only [Tree.holds, decide_eq_true_eq, decide_eq_false_iff_not, Bool.and_eq_true]
    exact ⟨fun _ => ⟨_, rfl, rfl, rfl⟩, fun a => ⟨fun _ => ⟨_, rfl, rfl, rfl⟩, fun b => by omega⟩⟩

theorem S2_ok (hE : Plain E) : SumsOK Try.prog E ra base S2 := by
  refine sumNG_deal hE (sumNG_deal hE (sumNG_deal hE (S1_ok hE) ⟨_, Try.func7, by kernel_rfl⟩ ?_ ?_) ⟨_, Try.func9, by kernel_rfl⟩ ?_ fun x hx => send_r hE x hx) ⟨_, Try.func11, by kernel_rfl⟩ ?_ fun x hx => del_g hE x hx
  · intro q hq
    simp only [List.mem_cons, List.not_mem_nil, or_false] at hq
    subst hq
    intro c hc
    exact (newR_gives hE c).1 hc
  · intro c hc
    simp only [new0D, Bool.not_eq_true'] at hc
    exact (newR_gives hE c).2 hc
  · intro q hq
    simp only [List.mem_cons, List.not_mem_nil, or_false] at hq
    subst hq
    intro x hx
    exact send_f hE x hx
  · intro q hq
    simp only [List.mem_cons, List.not_mem_nil, or_false] at hq
    rcases hq with rfl | rfl
    · intro x hx
      exact del_no hE x hx
    · intro x hx
      exact del_e hE x hx
end
end Go.Proofs.Ytohdkgdaccoohaa
