/- front: FrontPlays: the document's functions keep their contracts. -/
import Derived.Test.YtnnbbjfbhigcfaaP23f
set_option linter.unusedSimpArgs false
namespace Go.Proofs.Ytnnbbjfbhigcfaa
open Ab

section
variable {T : Tb} {ra : Nat → Nat → Nat × Nat} {base : Nat}

theorem makeOk_iff {p m : Nat} {t : Int} : makeOk T ⟨.ro p m, t⟩ = true ↔ 1 ≤ m ∧ m ≤ 16 ∧ inT t = true ∧ allT ((T.hs p).take m) = true := by
  simp only [makeOk, Bool.and_eq_true, decide_eq_true_eq]; rfl

theorem rmake_gives (y : Mk) (h : okS20 T y.s = true) : (makeOk T y = true → Gives Try.prog (tabF T) ra base 0 18 [y.s.v, .int .i64 y.t] (hp 0 []) fun v h' => v = .ptr (.own 1 0 0 0) ∧ h' = hp 0 ((rmake1 T).blks' y)) ∧
    (makeOk T y = false → Gives Try.prog (tabF T) ra base 0 18 [y.s.v, .int .i64 y.t] (hp 0 []) fun v h' => v = .nilp ∧ h' = hp 0 []) := by
  have hE := tabF_plain T
  obtain ⟨s, t⟩ := y
  cases s with
  | nil =>
    refine ⟨fun k => by simp [makeOk, slN] at k, fun _ => ?_⟩
    exact (gives_of_tree hE (w0 rmakeL_ok) sumNone_ok (hp_below _) (rmake_n T t) ⟨_, rfl, rfl, rfl⟩).2
  | ro p m =>
    have h0 := h
    simp only [okS20, Bool.and_eq_true, decide_eq_true_eq] at h0
    have hi := makeOk_iff (T := T) (p := p) (m := m) (t := t)
    have hit := inT_iff (v := t)
    simp only at h
    have hR : okR T (.ro p m) = okS20 T (.ro p m) := rfl
    constructor
    · intro k
      obtain ⟨k1, k2, k3, k4⟩ := hi.1 k
      have k3 := hit.1 k3
      refine (gives_of_tree hE (w0 rmakeL_ok) sumNone_ok (hp_below _) (rmake_r T p m t) ?_).2
      have e1 : allT ((Sl.ro p m).l T) = true := k4
      have hb : Nat.ble (0 + m) 0 = false := by
        cases hh : Nat.ble (0 + m) 0 with
        | false => rfl
        | true => have := Nat.le_of_ble_eq_true hh; omega
      simp only [Tree.holds, decide_true, Bool.and_self, Bool.and_true, Bool.true_and, true_and, e1, h, hR, hb, decide_eq_true_eq, decide_eq_false_iff_not, Bool.not_eq_true', Bool.not_eq_false', reduceCtorEq, false_implies, true_implies, and_true]
      refine ⟨fun q => absurd q (by omega), fun _ => ⟨fun q => absurd q (by omega), fun _ => ⟨fun _ => ⟨fun q => absurd k3.2 q, fun _ => ⟨by omega, by omega, _, rfl, rfl, ?_⟩⟩, fun q => absurd k3.1 q⟩⟩⟩
      simp only [rmake1, slN, Sl.l, rowI, Nat.zero_add, List.drop_zero]; rfl
    · intro k
      have k' : ¬ (1 ≤ m ∧ m ≤ 16 ∧ inT t = true ∧ allT ((T.hs p).take m) = true) := fun hh => by rw [hi.2 hh] at k; cases k
      rw [hit] at k'
      refine (gives_of_tree hE (w0 rmakeL_ok) sumNone_ok (hp_below _) (rmake_r T p m t) ?_).2
      have fin : ∃ v, ([.nilp] : List AVal) = [v] ∧ v = AVal.nilp ∧ ([] : Log) = hp 0 [] := ⟨_, rfl, rfl, rfl⟩
      refine ⟨fun _ => fin, fun a => ⟨fun _ => fin, fun b => ⟨fun c => ⟨fun _ => fin, fun d => ⟨fun e => ?_, fun e => ?_⟩⟩, fun _ => fin⟩⟩⟩
      · exfalso
        apply k'
        simp only [decide_eq_false_iff_not, decide_eq_true_eq, Bool.not_eq_false'] at a b c d
        exact ⟨by omega, by omega, ⟨c, d⟩, e⟩
      · simp only [Tree.holds, decide_true, Bool.and_self, Bool.and_true, Bool.true_and, true_and, h, hR, e, Bool.not_false]
        exact fin

theorem L18_ok : LoopsOK Try.prog (tabF T) ra base L18 := by
  have hE := tabF_plain T
  refine sumLG_deal hE noL_ok rfl (c := codeOf 18 [false, false, true, false, true, true]) (by kernel_rfl) (fun _ => rfl) fun y hy => ?_
  obtain ⟨n⟩ := y
  simp only [nzLoop, decide_eq_true_eq] at hy
  refine takes_loop (fun j ts h => ∃ i : Nat, i ≤ n ∧ j = n - i + 1 ∧ ts = mkT 37 [(0, .slice (.own 0 0 0 1) n (some n)), (1, .int .i64 0), (5, .int .i64 i)] ∧ h = hp 0 [rowI n (zerosI n)]) (fun ts h => by rintro ⟨i, _, h, _⟩; omega) (fun j ts h' => ?_) (j := n + 1) ⟨0, by omega, rfl, rfl, rfl⟩
  rintro ⟨i, k1, k2, rfl, rfl⟩
  have hwi : wr .i64 ((i : Int) + 1) = ((i + 1 : Nat) : Int) := by rw [wr_in ⟨by omega, by omega⟩]; omega
  refine takes_of_tree hE (w0 noL_ok) (f := 18) (.inr (by kernel_rfl)) (hp_below _) (rnew_round T n i) ?_
  have hz : (zerosI n).getD i 0 = 0 := by
    rw [zerosI, List.getD_eq_getElem?_getD, List.getElem?_replicate]; split <;> rfl
  rw [toNat_nat, hz]
  simp only [Tree.holds, decide_eq_true_eq, decide_eq_false_iff_not, Bool.and_eq_true, hwi, Bool.not_eq_true', Bool.not_eq_false']
  refine ⟨fun q1 => ⟨⟨by omega, by omega⟩, by omega, fun _ => ⟨fun q3 => absurd (by decide) q3, fun _ => ⟨i + 1, by omega, by omega, rfl, rfl⟩⟩, fun q2 => absurd (Int.le_refl 0) q2⟩, fun q1 => ?_⟩
  have : i = n := by omega
  subst this
  rfl

theorem rnew_gives (n : Int) : (newOk n = true → Gives Try.prog (tabF T) ra base 0 16 [.int .i64 n] (hp 0 []) fun v h' => v = .ptr (.own 1 0 0 0) ∧ h' = hp 0 (rnew1.blks' n)) ∧
    (newOk n = false → Gives Try.prog (tabF T) ra base 0 16 [.int .i64 n] (hp 0 []) fun v h' => v = .nilp ∧ h' = hp 0 []) := by
  have hE := tabF_plain T
  constructor
  · intro k
    obtain ⟨k1, k2⟩ := newOk_iff.1 k
    refine (gives_of_tree hE (w0 L18_ok) sumNone_ok (hp_below _) (rnew_call T n) ?_).2
    have hb : Nat.ble (0 + n.toNat) 0 = false := by
      cases hh : Nat.ble (0 + n.toNat) 0 with
      | false => rfl
      | true => have := Nat.le_of_ble_eq_true hh; omega
    have hz : zerosI n.toNat = List.replicate n.toNat 0 := rfl
    simp only [Tree.holds, decide_true, Bool.and_self, Bool.and_true, Bool.true_and, true_and, hb, hz, Bool.and_eq_true, decide_eq_true_eq, decide_eq_false_iff_not, Int.le_refl]
    refine ⟨fun q => absurd q (by omega), fun _ => ⟨fun q => absurd q (by omega), fun _ => ?_⟩⟩
    refine ⟨⟨by omega, by omega⟩, by omega, by omega, by omega, by omega, by omega, _, rfl, rfl, ?_⟩
    simp only [rnew1, rowI, Nat.zero_add, List.drop_zero, List.take_replicate, Nat.min_self]; rfl
  · intro k
    have k' : ¬ (1 ≤ n ∧ n ≤ 16) := fun hh => by rw [newOk_iff.2 hh] at k; cases k
    refine (gives_of_tree hE (w0 L18_ok) sumNone_ok (hp_below _) (rnew_call T n) ?_).2
    refine ⟨fun _ => ⟨_, rfl, rfl, rfl⟩, fun a => ⟨fun _ => ⟨_, rfl, rfl, rfl⟩, fun b => ?_⟩⟩
    simp only [decide_eq_false_iff_not] at a b
    exact absurd (by omega) k'

theorem okRr_facts {r : Rr} (h : okRr r = true) : 1 ≤ r.l.length ∧ r.l.length ≤ 16 := by
  simp only [okRr, Bool.and_eq_true, decide_eq_true_eq] at h; exact h

theorem putI_len (c : List Int) (e i a : Int) : (putI c e i a).length = c.length := by unfold putI; split <;> simp

theorem rmark_gives (r : Rr) (i a : Int) (h : okRr r = true) : Gives Try.prog (tabF T) ra base 2 21 [.ptr (.own 0 0 0 0), .int .i64 i, .int .i64 a] (hp 0 (rrB r)) fun v h' => v = .int .i64 (markE r.l i a) ∧ h' = hp 0 (rrB (r.mark i a)) := by
  have hE := tabF_plain T
  refine (gives_of_tree hE (w0 noL_ok) sumNone_ok (hp_below _) (rmark_call T r i a) ?_).2
  have key : ∀ e : Int, markE r.l i a = e → e ≠ 0 → r.mark i a = r := fun e he hn => by rw [Rr.mark, he, putI, if_neg hn]
  simp only [Tree.holds, decide_eq_true_eq, decide_eq_false_iff_not, Bool.and_eq_true, Nat.zero_add]
  refine ⟨fun k1 => ?_, fun k1 => ⟨fun k2 => ?_, fun k2 => ⟨⟨by omega, by omega⟩, by omega, fun k3 => ?_, fun k3 => ⟨fun k4 => ?_, fun k4 => ⟨⟨by omega, by omega⟩, by omega, ?_⟩⟩⟩⟩⟩
  · have he : markE r.l i a = 2 := by rw [markE, if_pos (.inl k1)]
    exact ⟨_, rfl, by rw [he], by rw [key 2 he (by decide)]; rfl⟩
  · have he : markE r.l i a = 2 := by rw [markE, if_pos (.inr (by omega))]
    exact ⟨_, rfl, by rw [he], by rw [key 2 he (by decide)]; rfl⟩
  · have he : markE r.l i a = 12 := by rw [markE, if_neg (by omega), if_pos (.inl k3)]
    exact ⟨_, rfl, by rw [he], by rw [key 12 he (by decide)]; rfl⟩
  · have he : markE r.l i a = 12 := by rw [markE, if_neg (by omega), if_pos (.inr k4)]
    exact ⟨_, rfl, by rw [he], by rw [key 12 he (by decide)]; rfl⟩
  · have he : markE r.l i a = 0 := by rw [markE, if_neg (by omega), if_neg (by omega)]
    have hm : r.mark i a = ⟨r.l.set i.toNat a, r.t⟩ := by rw [Rr.mark, he, putI, if_pos rfl]
    refine ⟨_, rfl, by rw [he], ?_⟩
    rw [hm]
    simp only [rrB, Rr.b0, Rr.b1, rowI, List.length_set]; rfl

theorem rof_gives (r : Rr) (i : Int) (h : okRr r = true) : Gives Try.prog (tabF T) ra base 2 25 [.ptr (.own 0 0 0 0), .int .i64 i] (hp 0 (rrB r)) fun v h' => v = .int .i64 (ofL r.l i) ∧ h' = hp 0 (rrB r) := by
  have hE := tabF_plain T
  refine (gives_of_tree hE (w0 noL_ok) sumNone_ok (hp_below _) (rof_call T r i) ?_).2
  simp only [Tree.holds, decide_eq_true_eq, decide_eq_false_iff_not, Bool.and_eq_true, Nat.zero_add]
  refine ⟨fun a => ⟨_, rfl, ?_, rfl⟩, fun a => ⟨fun b => ⟨_, rfl, ?_, rfl⟩, fun b => ⟨⟨by omega, by omega⟩, by omega, _, rfl, ?_, rfl⟩⟩⟩
  · rw [ofL, if_pos (.inl a)]
  · rw [ofL, if_pos (.inr (by omega))]
  · rw [ofL, if_neg (by omega)]

theorem L23_ok : LoopsOK Try.prog (tabF T) ra base L23 := by
  have hE := tabF_plain T
  refine sumLG_deal hE noL_ok rfl (c := codeOf 23 [false, false, true, false, true, true]) (by kernel_rfl) (fun _ => rfl) fun r hr => ?_
  obtain ⟨h1, h2⟩ := okRr_facts hr
  refine takes_loop (fun j ts h => ∃ i : Nat, i ≤ r.l.length ∧ j = r.l.length - i + 1 ∧ ts = mkT 30 [(0, .ptr (.own 0 0 0 0)), (3, .int .i64 (leastL (r.l.getD 0 0) (r.l.take i))), (4, .int .i64 i)] ∧ h = hp 0 (rrB r)) (fun ts h => by rintro ⟨i, _, h, _⟩; omega) (fun j ts h' => ?_) (j := r.l.length + 1) ⟨0, by omega, rfl, rfl, rfl⟩
  rintro ⟨i, k1, k2, rfl, rfl⟩
  have hwi : wr .i64 ((i : Int) + 1) = ((i + 1 : Nat) : Int) := by rw [wr_in ⟨by omega, by omega⟩]; omega
  refine takes_of_tree hE (w0 noL_ok) (f := 23) (.inr (by kernel_rfl)) (hp_below _) (rmin_round T r _ i) ?_
  rw [toNat_nat]
  simp only [Tree.holds, decide_eq_true_eq, decide_eq_false_iff_not, Bool.and_eq_true, hwi]
  refine ⟨fun q1 => ⟨⟨by omega, by omega⟩, by omega, i + 1, by omega, by omega, ?_, rfl⟩, fun q1 => ?_⟩
  · rw [leastL_snoc _ _ (by omega)]
  · have : i = r.l.length := by omega
    subst this
    rw [List.take_length]; rfl

theorem rmin_gives (r : Rr) (h : okRr r = true) : Gives Try.prog (tabF T) ra base 2 23 [.ptr (.own 0 0 0 0)] (hp 0 (rrB r)) fun v h' => v = .int .i64 (rmin r) ∧ h' = hp 0 (rrB r) := by
  have hE := tabF_plain T
  obtain ⟨h1, h2⟩ := okRr_facts h
  refine (gives_of_tree hE (w0 L23_ok) sumNone_ok (hp_below _) (rmin_call T r) ?_).2
  simp only [Tree.holds, decide_true, Bool.and_self, Bool.and_true, Bool.true_and, true_and, h, decide_eq_true_eq]
  exact ⟨by omega, by omega, _, rfl, rfl, rfl⟩

theorem lsP_facts {y : Ls} (h : lsP y = true) : y.n = y.m ∧ y.l = y.l' ∧ y.l.length = y.n ∧ y.n ≤ 16 := by
  simp only [lsP, Bool.and_eq_true, decide_eq_true_eq] at h; exact h

theorem ints_gives (y : Ls) (h : lsP y = true) : Gives Try.prog (tabF T) ra base 2 24 (lsA y) (hp 0 (lsB y)) fun v h' => v = .bool true ∧ h' = hp 0 (lsB y) := by
  have hE := tabF_plain T
  have hL : LoopsOK Try.prog (tabF T) ra base L24 := by
    refine sumLG_deal hE noL_ok rfl (c := codeOf 24 [false, false, true, false, true, true]) (by kernel_rfl) (fun _ => rfl) fun y hy => ?_
    obtain ⟨n, l, m, l'⟩ := y
    obtain ⟨g1, g2, g3, g4⟩ := lsP_facts hy
    simp only at g1 g2 g3 g4
    subst g1 g2
    refine takes_loop (fun j ts h => ∃ i : Nat, i ≤ n ∧ j = n - i + 1 ∧ ts = mkT 26 [(0, .slice (.own 0 0 0 1) n none), (1, .slice (.own 1 0 0 1) n none), (5, .int .i64 i)] ∧ h = hp 0 (lsB ⟨n, l, n, l⟩)) (fun ts h => by rintro ⟨i, _, h, _⟩; omega) (fun j ts h' => ?_) (j := n + 1) ⟨0, by omega, rfl, rfl, rfl⟩
    rintro ⟨i, k1, k2, rfl, rfl⟩
    have hwi : wr .i64 ((i : Int) + 1) = ((i + 1 : Nat) : Int) := by rw [wr_in ⟨by omega, by omega⟩]; omega
    refine takes_of_tree hE (w0 noL_ok) (f := 24) (.inr (by kernel_rfl)) (hp_below _) (ints_round T ⟨n, l, n, l⟩ i) ?_
    rw [toNat_nat]
    simp only [Tree.holds, decide_eq_true_eq, decide_eq_false_iff_not, Bool.and_eq_true, hwi, Bool.not_eq_true', Bool.not_eq_false', not_true, false_implies, true_implies, true_and]
    exact ⟨fun q1 => ⟨⟨by omega, by omega⟩, by omega, ⟨by omega, by omega⟩, by omega, i + 1, by omega, by omega, rfl, rfl⟩, fun q1 => rfl⟩
  obtain ⟨g1, g2, g3, g4⟩ := lsP_facts h
  refine (gives_of_tree hE (w0 hL) sumNone_ok (hp_below _) (ints_call T y) ?_).2
  simp only [Tree.holds, decide_true, Bool.and_self, Bool.and_true, Bool.true_and, true_and, h]
  refine ⟨fun k => ?_, fun _ => ⟨_, rfl, rfl, rfl⟩⟩
  rw [g1] at k; simp at k

theorem S6_ok : SumsOK Try.prog (tabF T) ra base (S6 T) := by
  have hE := tabF_plain T
  refine sumG_deal hE (sumG_deal hE (sumG_deal hE (sumG_deal hE (sum2_deal hE (sum2_deal hE (sum2_deal hE S5_ok ⟨_, Try.func17, by kernel_rfl⟩ (fun y hy => ?_) (fun y hy => ?_)) ⟨_, Try.func18, by kernel_rfl⟩ (fun y hy => ?_) (fun y hy => ?_)) ⟨_, Try.func16, by kernel_rfl⟩ (fun n hn => (rnew_gives n).1 hn) (fun n hn => ?_)) ⟨_, Try.func21, by kernel_rfl⟩ fun y hy => rmark_gives y.r y.i y.a hy) ⟨_, Try.func23, by kernel_rfl⟩ fun r hr => rmin_gives r hr)
    ⟨_, Try.func24, by kernel_rfl⟩ fun y hy => ints_gives y hy) ⟨_, Try.func25, by kernel_rfl⟩ fun y hy => rof_gives y.r y.i hy
  · simp only [make1, Bool.and_eq_true] at hy; exact (make_gives y hy.1).1 hy.2
  · simp only [make2, Bool.and_eq_true, Bool.not_eq_true'] at hy; exact (make_gives y hy.1).2 hy.2
  · simp only [rmake1, Bool.and_eq_true] at hy; exact (rmake_gives y hy.1).1 hy.2
  · simp only [rmake2, make2, Bool.and_eq_true, Bool.not_eq_true'] at hy; exact (rmake_gives y hy.1).2 hy.2
  · simp only [new2, Bool.not_eq_true'] at hn; exact (rnew_gives n).2 hn

theorem L22_ok : LoopsOK Try.prog (tabF T) ra base (L22 T) := by
  have hE := tabF_plain T
  refine sumLG_deal hE noL_ok rfl (c := codeOf 22 [false, false, true, false, true, true]) (by kernel_rfl) (fun _ => rfl) fun y hy => ?_
  obtain ⟨r, s⟩ := y
  simp only [rtellLoop, Bool.and_eq_true] at hy
  obtain ⟨hr, hs⟩ := hy
  cases s with
  | nil =>
    refine takes_loop (fun j ts h => j = 1 ∧ ts = mkT 37 [(0, .ptr (.own 0 0 0 0)), (1, .nils), (6, .int .i64 (rmin r)), (7, .int .i64 0)] ∧ h = hp 0 (rrB r)) (fun ts h => by rintro ⟨h, _⟩; omega) (fun j ts h' => ?_) (j := 1) ⟨rfl, rfl, rfl⟩
    rintro ⟨_, rfl, rfl⟩
    exact takes_of_tree hE (wS S6_ok) (f := 22) (.inr (by kernel_rfl)) (hp_below _) (rtell_round_n T (rmin r) 0 r) ⟨rfl, rfl⟩
  | ro p m =>
    simp only [okS, Bool.and_eq_true, decide_eq_true_eq] at hs
    refine takes_loop (fun j ts h => ∃ i : Nat, i ≤ m ∧ j = m - i + 1 ∧ ts = mkT 37 [(0, .ptr (.own 0 0 0 0)), (1, .slice (.ro 1 p 0 0) m none), (6, .int .i64 (leastL (rmin r) ((T.hs p).take i))), (7, .int .i64 i)] ∧ h = hp 0 (rrB r)) (fun ts h => by rintro ⟨i, _, h, _⟩; omega) (fun j ts h' => ?_) (j := m + 1) ⟨0, by omega, rfl, rfl, rfl⟩
    rintro ⟨i, k1, k2, rfl, rfl⟩
    have hwi : wr .i64 ((i : Int) + 1) = ((i + 1 : Nat) : Int) := by rw [wr_in ⟨by omega, by omega⟩]; omega
    refine takes_of_tree hE (wS S6_ok) (f := 22) (.inr (by kernel_rfl)) (hp_below _) (rtell_round_r T p m _ i r) ?_
    rw [toNat_nat]
    simp only [Tree.holds, decide_eq_true_eq, decide_eq_false_iff_not, Bool.and_eq_true, hwi]
    refine ⟨fun q1 => ⟨⟨by omega, by omega⟩, by omega, i + 1, by omega, by omega, ?_, rfl⟩, fun q1 => ?_⟩
    · rw [leastL_snoc _ _ (by omega)]
    · have : i = m := by omega
      subst this
      rfl

theorem rtell_gives (r : Rr) (s : Sl) (h : okRr r = true) (hs : okS T s = true) : Gives Try.prog (tabF T) ra base 2 22 [.ptr (.own 0 0 0 0), s.v] (hp 0 (rrB r)) fun v h' => v = .tup [.int .i64 (rtellV T r s), .bool (rtellB T r s)] ∧ h' = hp 0 (rrB ⟨r.l, rtellV T r s⟩) := by
  have hE := tabF_plain T
  have yes : ¬ rtellA T r s ≤ r.t → rtellV T r s = rtellA T r s ∧ rtellB T r s = true := fun k => ⟨by rw [rtellV, if_pos (by omega)], by rw [rtellB, decide_eq_true_eq]; omega⟩
  have no : rtellA T r s ≤ r.t → rtellV T r s = r.t ∧ rtellB T r s = false := fun k => ⟨by rw [rtellV, if_neg (by omega)], by rw [rtellB, decide_eq_false_iff_not]; omega⟩
  cases s with
  | nil =>
    refine (gives_of_tree hE (W_ok S6_ok L22_ok) S6_ok (hp_below _) (rtell_n T r) ?_).2
    simp only [Tree.holds, decide_true, Bool.and_self, Bool.and_true, Bool.true_and, true_and, h, hs]
    refine ⟨fun k => ?_, fun k => ?_⟩
    · obtain ⟨a, b⟩ := no (of_decide_eq_true k); exact ⟨_, rfl, by rw [a, b], by rw [a]; rfl⟩
    · obtain ⟨a, b⟩ := yes (of_decide_eq_false k); exact ⟨_, rfl, by rw [a, b], by rw [a]; rfl⟩
  | ro p m =>
    refine (gives_of_tree hE (W_ok S6_ok L22_ok) S6_ok (hp_below _) (rtell_r T p m r) ?_).2
    simp only [Tree.holds, decide_true, Bool.and_self, Bool.and_true, Bool.true_and, true_and, h, hs]
    refine ⟨fun k => ?_, fun k => ?_⟩
    · obtain ⟨a, b⟩ := no (of_decide_eq_true k); exact ⟨_, rfl, by rw [a, b], by rw [a]; rfl⟩
    · obtain ⟨a, b⟩ := yes (of_decide_eq_false k); exact ⟨_, rfl, by rw [a, b], by rw [a]; rfl⟩

theorem S7_ok : SumsOK Try.prog (tabF T) ra base (S7 T) := by
  refine sumG_deal (tabF_plain T) S6_ok ⟨_, Try.func22, by kernel_rfl⟩ fun y hy => ?_
  simp only [rtellD, Bool.and_eq_true] at hy
  exact rtell_gives y.r y.s hy.1 hy.2
end

end Go.Proofs.Ytnnbbjfbhigcfaa
