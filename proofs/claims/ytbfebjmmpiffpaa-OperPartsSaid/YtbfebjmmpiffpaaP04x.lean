/- oper: OperParts: how many there may be; each is the same one. -/
import Derived.Test.YtbfebjmmpiffpaaP04v
set_option linter.unusedSimpArgs false
set_option linter.unusedVariables false
namespace Go.Proofs.Ytbfebjmmpiffpaa
open Ab

theorem check_may {x : Op4} : checkE x = 0 ↔ mayB x = true := by
  unfold checkE
  split
  · rename_i h; exact ⟨fun _ => h, fun _ => rfl⟩
  · rename_i h; exact ⟨fun hh => absurd hh (by decide), fun hh => absurd hh h⟩
theorem most_take {ops : List Op4} {i : Nat} {x : Op4} (h : ops[i]? = some x) : mostI (ops.take (i + 1)) = mostI (ops.take i) * facOf x := by
  show (ops.take (i + 1)).foldl (fun m x => m * facOf x) 1 = _
  rw [List.take_add_one, h]; simp [mostI]
theorem pow12 {n : Nat} (h : n ≤ 12) : (3 : Int) ^ n ≤ 531441 := by
  have h1 : 3 ^ n ≤ 3 ^ 12 := Nat.pow_le_pow_right (by decide) h
  have h2 : ((3 ^ n : Nat) : Int) ≤ ((3 ^ 12 : Nat) : Int) := Int.ofNat_le.2 h1
  rw [Int.natCast_pow] at h2
  exact h2

section
variable {ra : Nat → Nat → Nat × Nat} {base : Nat} {T : Tb}

theorem l2_step {x : P2} (hz : x.zf = true) (hw : x.wf = x.pf) (h12 : x.o.kk.length ≤ 12) {i : Nat} {y : Op4} (hy : (toO x.o)[i]? = some y) :
    Takes Try.prog (tabT T) ra base 0 (codeOf 5 (false :: g2)) (mkT 161 (x.at (mostI ((toO x.o).take i)) (i : Nat))) (hp 0 (x.fB ++ x.zB)) fun z => z = (.normal, mkT 161 (x.at (mostI ((toO x.o).take (i + 1))) ((i + 1 : Nat) : Int)), hp 0 (x.fB ++ x.zB)) := by
  have hE := tabT_plain T
  have hS := S5_ok (ra := ra) (base := base) T
  obtain ⟨r, wf, w, wc, pf, p, zf, o⟩ := x
  simp only at hz hw h12 hy
  subst hz; subst hw
  have hi : i < o.kk.length := by rw [← toO_len]; exact (List.getElem?_eq_some_iff.1 hy).1
  have hm := most_take hy
  have hb1 := most_pos ((toO o).take i)
  have hb2 : (3 : Int) ^ ((toO o).take i).length ≤ 531441 := pow12 (by rw [List.length_take]; omega)
  rw [toO_at hi] at hy
  have hyy : (⟨List.getD o.kk i 0, List.getD o.aa i 0, List.getD o.bb i 0, List.getD o.gg i 0⟩ : Op4) = y := Option.some.inj hy
  have hk : List.getD o.kk i 0 = y.k := by rw [← hyy]
  have ha : List.getD o.aa i 0 = y.a := by rw [← hyy]
  have hf := fac_ge y
  have e : 0 + Int.toNat (i : Int) = i := by omega
  have c1 : decide ((i : Int) < (o.kk.length : Int)) = true := decide_eq_true (by omega)
  have c2 : decide (0 ≤ (i : Int)) = true := decide_eq_true (by omega)
  have c3 : decide (i < o.kk.length) = true := decide_eq_true hi
  have ht : wr .i64 ((i : Int) + 1) = ((i + 1 : Nat) : Int) := till (by omega)
  have h1 : y.k = 3 → checkE y = 0 → wr .i64 (mostI ((toO o).take i) * y.a) = mostI ((toO o).take (i + 1)) := fun h3 hc => by
    have hfac : facOf y = y.a := by rw [facOf, if_pos ⟨h3, check_may.1 hc⟩]
    rw [hm, hfac]
    rw [hfac] at hf
    generalize mostI ((toO o).take i) = M at *
    generalize y.a = A at *
    have g1 : M * A ≤ 531441 * 3 := Int.mul_le_mul (by omega) hf.2 (by omega) (by decide)
    have g2 : 0 ≤ M * A := Int.mul_nonneg (by omega) (by omega)
    exact wr_in ⟨by omega, by omega⟩
  have h2 : ¬ (y.k = 3 ∧ checkE y = 0) → mostI ((toO o).take i) = mostI ((toO o).take (i + 1)) := fun h => by
    have hfac : facOf y = 1 := by rw [facOf, if_neg (fun hh => h ⟨hh.1, check_may.2 hh.2⟩)]
    rw [hm, hfac, Int.mul_one]
  generalize mostI ((toO o).take i) = M at *
  generalize mostI ((toO o).take (i + 1)) = M' at *
  cases wf with
  | true =>
    refine takes_of_tree hE (wE hE hS) (f := 5) (.inr (by kernel_rfl)) (hp_below _) (l2_11 T r w wc p o i M) ?_
    simp only [e]
    simp only [hyy]
    simp only [hk, ha]
    simp only [c1, c2, c3, ht, Tree.holds, decide_true, Bool.and_self, Bool.and_true, Bool.true_and, true_and, and_true, decide_eq_true_eq, decide_eq_false_iff_not]
    refine ⟨fun _ => ⟨fun h3 => ⟨fun hc => ?_, fun hc => ?_⟩, fun h3 => ?_⟩, fun h => by cases h⟩
    · rw [h1 h3 hc]; rfl
    · rw [h2 (fun hh => hc hh.2)]; rfl
    · rw [h2 (fun hh => h3 hh.1)]; rfl
  | false =>
    refine takes_of_tree hE (wE hE hS) (f := 5) (.inr (by kernel_rfl)) (hp_below _) (l2_01 T r o i M) ?_
    simp only [e]
    simp only [hyy]
    simp only [hk, ha]
    simp only [c1, c2, c3, ht, Tree.holds, decide_true, Bool.and_self, Bool.and_true, Bool.true_and, true_and, and_true, decide_eq_true_eq, decide_eq_false_iff_not]
    refine ⟨fun _ => ⟨fun h3 => ⟨fun hc => ?_, fun hc => ?_⟩, fun h3 => ?_⟩, fun h => by cases h⟩
    · rw [h1 h3 hc]; rfl
    · rw [h2 (fun hh => hc hh.2)]; rfl
    · rw [h2 (fun hh => h3 hh.1)]; rfl

theorem l2_end {x : P2} (hz : x.zf = true) (hw : x.wf = x.pf) (m : Int) :
    Takes Try.prog (tabT T) ra base 0 (codeOf 5 (false :: g2)) (mkT 161 (x.at m (x.o.kk.length : Nat))) (hp 0 (x.fB ++ x.zB)) fun z => z = (.exit 2, mkT 161 (x.fr ++ [(13, .int .i64 m)]), hp 0 x.fB) := by
  have hE := tabT_plain T
  have hS := S5_ok (ra := ra) (base := base) T
  obtain ⟨r, wf, w, wc, pf, p, zf, o⟩ := x
  simp only at hz hw
  subst hz; subst hw
  have c1 : decide ((o.kk.length : Int) < (o.kk.length : Int)) = false := decide_eq_false (by omega)
  cases wf with
  | true =>
    refine takes_of_tree hE (wE hE hS) (f := 5) (.inr (by kernel_rfl)) (hp_below _) (l2_11 T r w wc p o (o.kk.length : Nat) m) ?_
    simp only [Tree.holds, c1, Bool.false_eq_true, false_implies, true_and, forall_const]
    rfl
  | false =>
    refine takes_of_tree hE (wE hE hS) (f := 5) (.inr (by kernel_rfl)) (hp_below _) (l2_01 T r o (o.kk.length : Nat) m) ?_
    simp only [Tree.holds, c1, Bool.false_eq_true, false_implies, true_and, forall_const]
    rfl

theorem l2_takes (x : P2) (hx : p2D.pre x = true) : Takes Try.prog (tabT T) ra base 0 (.loop (codeOf 5 (false :: g2))) (mkT 161 (p2D.ins x)) (hp 0 (p2D.blks x)) fun w => PostL 161 x w p2D.alts := by
  simp only [p2D, ok2, Bool.and_eq_true, Bool.or_eq_true, decide_eq_true_eq] at hx
  obtain ⟨h1, h2, h3, h4⟩ := hx
  cases hz : x.zf with
  | true =>
    have hlen := toO_len x.o
    refine takes_loop (fun j ts h => ∃ i : Nat, i ≤ x.o.kk.length ∧ j = x.o.kk.length - i + 1 ∧ ts = mkT 161 (x.at (mostI ((toO x.o).take i)) (i : Nat)) ∧ h = hp 0 (x.fB ++ x.zB)) (fun ts h => by rintro ⟨_, _, h, _⟩; omega) (fun j ts h' => ?_) (j := x.o.kk.length + 1) ⟨0, Nat.zero_le _, rfl, rfl, rfl⟩
    rintro ⟨i, k1, k2, rfl, rfl⟩
    rcases Nat.lt_or_ge i x.o.kk.length with hi | hi
    · refine (l2_step hz h1 h3 (toO_at hi)).mono ?_
      rintro w rfl
      exact ⟨i + 1, by omega, by omega, rfl, rfl⟩
    · have : i = x.o.kk.length := by omega
      subst this
      have et : (toO x.o).take x.o.kk.length = toO x.o := List.take_of_length_le (by omega)
      rw [et]
      refine (l2_end hz h1 _).mono ?_
      rintro w rfl
      exact ⟨mostI (toO x.o), rfl, rfl⟩
  | false =>
    have hE := tabT_plain T
    have hS := S5_ok (ra := ra) (base := base) T
    obtain ⟨r, wf, w, wc, pf, p, zf, o⟩ := x
    simp only at h1 h2 h3 h4 hz
    subst hz; subst h1
    have h0 : o.kk.length = 0 := by rcases h4 with h | h; (cases h); exact h
    have hm : mostP o 1 := by
      have : toO o = [] := List.length_eq_zero_iff.1 (by rw [toO_len, h0])
      rw [mostP, this]; rfl
    refine takes_loop (fun j ts h => j = 1 ∧ ts = mkT 161 (p2D.ins ⟨r, wf, w, wc, wf, p, false, o⟩) ∧ h = hp 0 (p2D.blks ⟨r, wf, w, wc, wf, p, false, o⟩)) (fun ts h => by rintro ⟨h, _⟩; omega) (fun j ts h' => ?_) (j := 1) ⟨rfl, rfl, rfl⟩
    rintro ⟨_, rfl, rfl⟩
    cases wf with
    | true => exact takes_of_tree hE (wE hE hS) (f := 5) (.inr (by kernel_rfl)) (hp_below _) (l2_10 T r w wc p) ⟨1, hm, rfl⟩
    | false => exact takes_of_tree hE (wE hE hS) (f := 5) (.inr (by kernel_rfl)) (hp_below _) (l2_00 T r) ⟨1, hm, rfl⟩

theorem sameR_eq {a b : Rs} (h : sameR a b = true) : a = b := by
  obtain ⟨a1, a2, a3, a4, a5, a6⟩ := a
  obtain ⟨b1, b2, b3, b4, b5, b6⟩ := b
  simp only [sameR, Bool.and_eq_true, decide_eq_true_eq] at h
  obtain ⟨rfl, rfl, rfl, rfl, rfl, rfl⟩ := h
  rfl

theorem l4_takes (x : P4) (hx : p4D.pre x = true) : Takes Try.prog (tabT T) ra base 0 (.loop (codeOf 5 (false :: g4))) (mkT 161 (p4D.ins x)) (hp 0 (p4D.blks x)) fun w => PostL 161 x w p4D.alts := by
  have hE := tabT_plain T
  have hS := S5_ok (ra := ra) (base := base) T
  obtain ⟨r, wf, w, wc, pf, p, m⟩ := x
  simp only [p4D, ok4p, Bool.and_eq_true, decide_eq_true_eq] at hx
  obtain ⟨rfl, h2, h3, h4⟩ := hx
  obtain rfl := sameR_eq h2
  obtain ⟨g1, g2, g3⟩ := okL_iff'.1 h3
  rcases g3 with ⟨rfl, g3⟩ | ⟨rfl, g3⟩
  · have e := of_toL g1
    generalize hl' : toL w = l at *
    subst e
    rw [ks_len] at g2 g3
    refine takes_loop (fun j ts h => ∃ i : Nat, i ≤ l.length ∧ j = l.length - i + 1 ∧ ts = mkT 161 (P4.at ⟨r, true, Rs.of l, wc, true, Rs.of l, m⟩ (i : Nat)) ∧ h = hp 0 (P4.blks ⟨r, true, Rs.of l, wc, true, Rs.of l, m⟩)) (fun ts h => by rintro ⟨_, _, h, _⟩; omega) (fun j ts h' => ?_) (j := l.length + 1) ⟨0, Nat.zero_le _, rfl, rfl, rfl⟩
    rintro ⟨i, k1, k2, rfl, rfl⟩
    refine takes_of_tree hE (wE hE hS) (f := 5) (.inr (by kernel_rfl)) (hp_below _) (l4_1 T r (Rs.of l) wc m (i : Nat)) ?_
    have c2 : decide (0 ≤ (i : Int)) = true := decide_eq_true (by omega)
    have ht : wr .i64 ((i : Int) + 1) = ((i + 1 : Nat) : Int) := till (by omega)
    rcases Nat.lt_or_ge i l.length with hi | hi
    · have hr : l[i]? = some l[i] := List.getElem?_eq_getElem hi
      obtain ⟨e1, e2, e3, e4, e5, e6, e7⟩ := cols_of hr
      have hlike := List.all_eq_true.1 h4 _ (List.getElem_mem hi)
      generalize l[i] = z at *
      obtain ⟨b1, b2, b3, b4, b5⟩ := like_iff.1 hlike
      have c1 : decide ((i : Int) < ((Rs.of l).ks.length : Int)) = true := decide_eq_true (by rw [ks_len]; omega)
      have c3 : decide (0 + Int.toNat (i : Int) < (Rs.of l).ks.length) = true := decide_eq_true (by rw [ks_len]; omega)
      have leaf : (∃ i' : Nat, i' ≤ l.length ∧ j = l.length - i' + 1 ∧ mkT 161 (P4.at ⟨r, true, Rs.of l, wc, true, Rs.of l, m⟩ ((i + 1 : Nat) : Int)) = mkT 161 (P4.at ⟨r, true, Rs.of l, wc, true, Rs.of l, m⟩ (i' : Nat)) ∧ hp 0 (P4.blks ⟨r, true, Rs.of l, wc, true, Rs.of l, m⟩) = hp 0 (P4.blks ⟨r, true, Rs.of l, wc, true, Rs.of l, m⟩)) := ⟨i + 1, by omega, by omega, rfl, rfl⟩
      simp only [e1, e2, e3, e4, e5, e6, b1, b2, b3, b4]
      simp only [c1, c2, c3, ht, Tree.holds, decide_true, Bool.and_self, Bool.and_true, Bool.true_and, true_and, and_true, Bool.not_true, Bool.not_false, Bool.false_eq_true, Bool.true_eq_false, false_implies, forall_const]
      refine ⟨fun he => ?_, fun he => ⟨fun hl => ?_, fun hl => leaf⟩⟩
      · obtain ⟨q1, q2⟩ := b5 (by rw [he]; rfl)
        simp only [q1, q2, decide_true, Bool.and_self, Bool.and_true, Bool.not_true, Bool.false_eq_true, false_implies, true_and, forall_const]
        exact leaf
      · obtain ⟨q1, q2⟩ := b5 (by rw [hl, Bool.or_true])
        simp only [q1, q2, decide_true, Bool.and_self, Bool.and_true, Bool.not_true, Bool.false_eq_true, false_implies, true_and, forall_const]
        exact leaf
    · have c1 : decide ((i : Int) < ((Rs.of l).ks.length : Int)) = false := decide_eq_false (by rw [ks_len]; omega)
      simp only [c1, Tree.holds, Bool.false_eq_true, false_implies, true_and, forall_const]
      exact ⟨(), trivial, rfl⟩
  · refine takes_loop (fun j ts h => j = 1 ∧ ts = mkT 161 (p4D.ins ⟨r, false, w, wc, false, w, m⟩) ∧ h = hp 0 (p4D.blks ⟨r, false, w, wc, false, w, m⟩)) (fun ts h => by rintro ⟨h, _⟩; omega) (fun j ts h' => ?_) (j := 1) ⟨rfl, rfl, rfl⟩
    rintro ⟨_, rfl, rfl⟩
    exact takes_of_tree hE (wE hE hS) (f := 5) (.inr (by kernel_rfl)) (hp_below _) (l4_0 T r m) ⟨(), trivial, rfl⟩
end
end Go.Proofs.Ytbfebjmmpiffpaa
