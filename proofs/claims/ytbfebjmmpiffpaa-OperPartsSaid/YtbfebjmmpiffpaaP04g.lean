/- oper: Apply's loops keep their contracts. -/
import Derived.Test.YtbfebjmmpiffpaaP04f
import Derived.Test.YtbfebjmmpiffpaaT04d
set_option linter.unusedSimpArgs false
set_option linter.unusedVariables false
namespace Go.Proofs.Ytbfebjmmpiffpaa
open Ab

section
variable {E : Nat → Nat → Seg} {ra : Nat → Nat → Nat × Nat} {base : Nat}

theorem okL_iff {full : Bool} {L : Rs} : okL full L = true ↔ lensR L = true ∧ L.ks.length ≤ 1000000 ∧ ((full = true ∧ 0 < L.ks.length) ∨ (full = false ∧ L.ks.length = 0)) := by
  cases full <;> simp [okL]
theorem nil_len {L : Rs} (h : lensR L = true) (h0 : L.ks.length = 0) : L = Rs.none := by
  have e := of_toL h
  have hl : toL L = [] := List.length_eq_zero_iff.1 (by rw [toL_len, h0])
  rw [hl] at e
  exact e.symm

/-- the inner loop's end -/
theorem in_end (hE : Plain E) (x : Op4) (f : Fr) (c : Option Nat) (l o : List Rc) : Takes Try.prog E ra base 1 (codeOf 15 (false :: q2)) (inT x f c l l.length) (inH x f c l o) fun y =>
    y = (.exit 2, mkT 63 ((9, .ptr (.own 1 0 0 0)) :: f.ts 0), hp 0 (match fullB o with
    | true => [f.o.blk, cellB (.slice (.own 2 0 0 6) (Rs.of o).ks.length none), (Rs.of o).blk]
    | false => [f.o.blk, cellB .nils])) := by
  obtain ⟨k, a, b, g⟩ := x
  have hc : decide ((l.length : Int) < (l.length : Int)) = false := decide_eq_false (by omega)
  cases ho : fullB o with
  | true =>
    have hx : inH ⟨k, a, b, g⟩ f c l o = hp 0 (Rd.blks ⟨⟨k, a, b, g⟩, f, true, [], c⟩ (Rs.of l) 4 true (Rs.of o)) := by rw [inH, ho]
    rw [hx]
    exact takes_of_tree hE (wE hE sumNone_ok) (f := 15) (.inr (by kernel_rfl)) (hp_below _) (in_end_S E f k a b g c (fnV k) (Rs.of l) (Rs.of o) (l.length : Nat) (l.length : Nat)) ⟨hc, rfl⟩
  | false =>
    obtain rfl := full_nil ho
    exact takes_of_tree hE (wE hE sumNone_ok) (f := 15) (.inr (by kernel_rfl)) (hp_below _) (in_end_N E f k a b g c (fnV k) (Rs.of l) (l.length : Nat) (l.length : Nat)) ⟨hc, rfl⟩

theorem in_takes (hE : Plain E) (x : In) (hx : inD.pre x = true) : Takes Try.prog E ra base 1 (.loop (codeOf 15 (false :: q2))) (mkT 63 (inD.ins x)) (hp 0 (inD.blks x)) fun w => PostL 63 x w inD.alts := by
  obtain ⟨x, f, full, L, c⟩ := x
  simp only [inD, Bool.and_eq_true] at hx
  obtain ⟨hd, hL⟩ := hx
  obtain ⟨h1, h2, h3⟩ := okL_iff.1 hL
  rcases h3 with ⟨rfl, h3⟩ | ⟨rfl, h3⟩
  · have e := of_toL h1
    have hl := toL_len L
    have hm : made x L = (toL L).flatMap (makes x) := rfl
    generalize hl' : toL L = l at *
    subst e
    rw [ks_len] at h2 h3 hl
    refine takes_loop (fun j ts h => ∃ i : Nat, i ≤ l.length ∧ j = l.length - i + 1 ∧ ts = inT x f c l i ∧ h = inH x f c l ((l.take i).flatMap (makes x))) (fun ts h => by rintro ⟨_, _, h, _⟩; omega) (fun j ts h' => ?_) (j := l.length + 1) ⟨0, Nat.zero_le _, rfl, ?_, rfl⟩
    · rintro ⟨i, k1, k2, rfl, rfl⟩
      rcases Nat.lt_or_ge i l.length with hi | hi
      · have hr : l[i]? = some l[i] := List.getElem?_eq_getElem hi
        have hlo : ((l.take i).flatMap (makes x)).length ≤ 3000000 := by
          have := flat_len hd (l.take i)
          rw [List.length_take] at this
          omega
        refine (in_step hE hd f c l _ i _ hr h2 hlo).mono ?_
        rintro w rfl
        exact ⟨i + 1, by omega, by omega, rfl, by rw [flat_take hr]⟩
      · have : i = l.length := by omega
        subst this
        rw [List.take_length, ← hm]
        refine (in_end hE x f c l (made x (Rs.of l))).mono ?_
        rintro w rfl
        cases hf : fullB (made x (Rs.of l)) with
        | true => exact .inr ⟨Rs.of (made x (Rs.of l)), ⟨rfl, fun h => by rw [h] at hf; cases hf⟩, rfl⟩
        | false => exact .inl ⟨(), full_nil hf, rfl⟩
    · show mkT 63 (Rd.at ⟨x, f, true, [], c⟩ (Rs.of l) ((Rs.of l).ks.length : Nat) 0) = _
      rw [ks_len]; rfl
  · obtain rfl := nil_len h1 h3
    refine takes_loop (fun j ts h => j = 1 ∧ ts = mkT 63 (inD.ins ⟨x, f, false, Rs.none, c⟩) ∧ h = hp 0 (inD.blks ⟨x, f, false, Rs.none, c⟩)) (fun ts h => by rintro ⟨h, _⟩; omega) (fun j ts h' => ?_) (j := 1) ⟨rfl, rfl, rfl⟩
    rintro ⟨_, rfl, rfl⟩
    obtain ⟨k, a, b, g⟩ := x
    refine takes_of_tree hE (wE hE sumNone_ok) (f := 15) (.inr (by kernel_rfl)) (hp_below _) (in_no E f k a b g c (fnV k)) ?_
    exact .inl ⟨(), rfl, rfl⟩

theorem TI_ok (hE : Plain E) : ToldsOK Try.prog E ra base 1 TI := sumT_ok noT_ok rfl (toldR_ok (c := .loop (codeOf 15 (false :: q2))) (by kernel_rfl) (in_takes hE))

theorem pc_takes (hE : Plain E) (x : In) (hx : pcD.pre x = true) : Takes Try.prog E ra base 1 (codeOf 15 pB) (mkT 63 (pcD.ins x)) (hp 0 (pcD.blks x)) fun w => PostL 63 x w pcD.alts := by
  have hS := S1_ok (ra := ra) (base := base) hE
  have hT := TI_ok (ra := ra) (base := base) hE
  obtain ⟨⟨k, a, b, g⟩, f, full, L, c⟩ := x
  simp only [pcD] at hx
  obtain ⟨h1, h2, h3⟩ := okL_iff.1 hx
  have s1 := cap_self f.2
  have s2 := cap_self c
  cases hd : doesB ⟨k, a, b, g⟩ with
  | false =>
    have hn : ¬ checkE ⟨k, a, b, g⟩ = 0 ∨ (checkE ⟨k, a, b, g⟩ = 0 ∧ ¬ classE ⟨k, a, b, g⟩ = 0) := by
      by_cases hm : mayB ⟨k, a, b, g⟩ = true
      · refine .inr ⟨(e0 hm).symm, fun hc => ?_⟩
        rw [does_iff.2 ⟨hm, hc⟩] at hd; cases hd
      · exact .inl (by rw [← e13 hm]; decide)
    rcases h3 with ⟨rfl, h3⟩ | ⟨rfl, h3⟩
    · rcases hn with hn | ⟨hn, hn'⟩
      · refine takes_of_treeQ hE (wE hE hS) hT (.inr (by kernel_rfl)) (hp_below _) (pc_no_S E f k a b g c L) ?_
        have q1 : decide (checkE ⟨k, a, b, g⟩ = 0) = false := decide_eq_false hn
        simp only [TreeQ.holds, decide_true, Bool.and_self, Bool.and_true, Bool.true_and, true_and, q1, Bool.not_false]
        exact .inl ⟨(), hd, rfl⟩
      · refine takes_of_treeQ hE (wE hE hS) hT (.inr (by kernel_rfl)) (hp_below _) (pc_cl_S E f k a b g c L) ?_
        have q1 : decide (checkE ⟨k, a, b, g⟩ = 0) = true := decide_eq_true hn
        have q2 : decide (classE ⟨k, a, b, g⟩ = 0) = false := decide_eq_false hn'
        simp only [TreeQ.holds, decide_true, Bool.and_self, Bool.and_true, Bool.true_and, true_and, q1, q2, Bool.not_false, Bool.not_true]
        exact .inl ⟨(), hd, rfl⟩
    · obtain rfl := nil_len h1 h3
      rcases hn with hn | ⟨hn, hn'⟩
      · refine takes_of_treeQ hE (wE hE hS) hT (.inr (by kernel_rfl)) (hp_below _) (pc_no_N E f k a b g) ?_
        have q1 : decide (checkE ⟨k, a, b, g⟩ = 0) = false := decide_eq_false hn
        simp only [TreeQ.holds, decide_true, Bool.and_self, Bool.and_true, Bool.true_and, true_and, q1, Bool.not_false]
        exact .inl ⟨(), hd, rfl⟩
      · refine takes_of_treeQ hE (wE hE hS) hT (.inr (by kernel_rfl)) (hp_below _) (pc_cl_N E f k a b g) ?_
        have q1 : decide (checkE ⟨k, a, b, g⟩ = 0) = true := decide_eq_true hn
        have q2 : decide (classE ⟨k, a, b, g⟩ = 0) = false := decide_eq_false hn'
        simp only [TreeQ.holds, decide_true, Bool.and_self, Bool.and_true, Bool.true_and, true_and, q1, q2, Bool.not_false, Bool.not_true]
        exact .inl ⟨(), hd, rfl⟩
  | true =>
    obtain ⟨hm, hc⟩ := does_iff.1 hd
    obtain ⟨hk, _⟩ := does_kind hd
    have q1 : decide (checkE ⟨k, a, b, g⟩ = 0) = true := decide_eq_true (e0 hm).symm
    have q2 : decide (classE ⟨k, a, b, g⟩ = 0) = true := decide_eq_true hc
    simp only at hk
    rcases h3 with ⟨rfl, h3⟩ | ⟨rfl, h3⟩
    · rcases hk with rfl | rfl | rfl | rfl
      · refine takes_of_treeQ hE (wE hE hS) hT (.inr (by kernel_rfl)) (hp_below _) (pc_0_S E f a b g c L) ?_
        simp only [TreeQ.holds, decide_true, Bool.and_self, Bool.and_true, Bool.true_and, true_and, q1, q2, s1, s2, hd, hx, Bool.not_false, Bool.not_true, Bool.false_eq_true, false_implies, forall_const]
        exact ⟨fun h => .inr (.inl ⟨(), ⟨hd, h⟩, rfl⟩), fun y h => .inr (.inr ⟨y, ⟨hd, h⟩, rfl⟩)⟩
      · refine takes_of_treeQ hE (wE hE hS) hT (.inr (by kernel_rfl)) (hp_below _) (pc_1_S E f a b g c L) ?_
        simp only [TreeQ.holds, decide_true, Bool.and_self, Bool.and_true, Bool.true_and, true_and, q1, q2, s1, s2, hd, hx, Bool.not_false, Bool.not_true, Bool.false_eq_true, false_implies, forall_const]
        exact ⟨fun h => .inr (.inl ⟨(), ⟨hd, h⟩, rfl⟩), fun y h => .inr (.inr ⟨y, ⟨hd, h⟩, rfl⟩)⟩
      · refine takes_of_treeQ hE (wE hE hS) hT (.inr (by kernel_rfl)) (hp_below _) (pc_2_S E f a b g c L) ?_
        simp only [TreeQ.holds, decide_true, Bool.and_self, Bool.and_true, Bool.true_and, true_and, q1, q2, s1, s2, hd, hx, Bool.not_false, Bool.not_true, Bool.false_eq_true, false_implies, forall_const]
        exact ⟨fun h => .inr (.inl ⟨(), ⟨hd, h⟩, rfl⟩), fun y h => .inr (.inr ⟨y, ⟨hd, h⟩, rfl⟩)⟩
      · refine takes_of_treeQ hE (wE hE hS) hT (.inr (by kernel_rfl)) (hp_below _) (pc_3_S E f a b g c L) ?_
        simp only [TreeQ.holds, decide_true, Bool.and_self, Bool.and_true, Bool.true_and, true_and, q1, q2, s1, s2, hd, hx, Bool.not_false, Bool.not_true, Bool.false_eq_true, false_implies, forall_const]
        exact ⟨fun h => .inr (.inl ⟨(), ⟨hd, h⟩, rfl⟩), fun y h => .inr (.inr ⟨y, ⟨hd, h⟩, rfl⟩)⟩
    · obtain rfl := nil_len h1 h3
      rcases hk with rfl | rfl | rfl | rfl
      · refine takes_of_treeQ hE (wE hE hS) hT (.inr (by kernel_rfl)) (hp_below _) (pc_0_N E f a b g) ?_
        simp only [TreeQ.holds, decide_true, Bool.and_self, Bool.and_true, Bool.true_and, true_and, q1, q2, s1, s2, hd, hx, Bool.not_false, Bool.not_true, Bool.false_eq_true, false_implies, forall_const]
        exact ⟨fun h => .inr (.inl ⟨(), ⟨hd, h⟩, rfl⟩), fun y h => .inr (.inr ⟨y, ⟨hd, h⟩, rfl⟩)⟩
      · refine takes_of_treeQ hE (wE hE hS) hT (.inr (by kernel_rfl)) (hp_below _) (pc_1_N E f a b g) ?_
        simp only [TreeQ.holds, decide_true, Bool.and_self, Bool.and_true, Bool.true_and, true_and, q1, q2, s1, s2, hd, hx, Bool.not_false, Bool.not_true, Bool.false_eq_true, false_implies, forall_const]
        exact ⟨fun h => .inr (.inl ⟨(), ⟨hd, h⟩, rfl⟩), fun y h => .inr (.inr ⟨y, ⟨hd, h⟩, rfl⟩)⟩
      · refine takes_of_treeQ hE (wE hE hS) hT (.inr (by kernel_rfl)) (hp_below _) (pc_2_N E f a b g) ?_
        simp only [TreeQ.holds, decide_true, Bool.and_self, Bool.and_true, Bool.true_and, true_and, q1, q2, s1, s2, hd, hx, Bool.not_false, Bool.not_true, Bool.false_eq_true, false_implies, forall_const]
        exact ⟨fun h => .inr (.inl ⟨(), ⟨hd, h⟩, rfl⟩), fun y h => .inr (.inr ⟨y, ⟨hd, h⟩, rfl⟩)⟩
      · refine takes_of_treeQ hE (wE hE hS) hT (.inr (by kernel_rfl)) (hp_below _) (pc_3_N E f a b g) ?_
        simp only [TreeQ.holds, decide_true, Bool.and_self, Bool.and_true, Bool.true_and, true_and, q1, q2, s1, s2, hd, hx, Bool.not_false, Bool.not_true, Bool.false_eq_true, false_implies, forall_const]
        exact ⟨fun h => .inr (.inl ⟨(), ⟨hd, h⟩, rfl⟩), fun y h => .inr (.inr ⟨y, ⟨hd, h⟩, rfl⟩)⟩

theorem TB_ok (hE : Plain E) : ToldsOK Try.prog E ra base 1 TB := sumT_ok noT_ok rfl (toldR_ok (c := codeOf 15 pB) (by kernel_rfl) (pc_takes hE))
end
end Go.Proofs.Ytbfebjmmpiffpaa
