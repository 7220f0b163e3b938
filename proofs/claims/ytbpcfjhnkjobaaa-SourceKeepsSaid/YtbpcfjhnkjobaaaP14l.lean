/- source: SourceKeeps: the rest of a round keeps its contract. -/
import Derived.Test.YtbpcfjhnkjobaaaT14g
import Derived.Test.YtbpcfjhnkjobaaaP14n
set_option linter.unusedSimpArgs false
namespace Go.Proofs.Ytbpcfjhnkjobaaa
open Ab

section
variable {ra : Nat → Nat → Nat × Nat} {base : Nat} {T : Tb}

theorem noRec_of {r : Rec6} (h : isNo r = true) : r = noRec := by
  obtain ⟨a, b, c, d, e, f⟩ := r
  simp only [isNo, Bool.and_eq_true, decide_eq_true_eq, Bool.not_eq_true'] at h
  obtain ⟨rfl, rfl, rfl, rfl, rfl, rfl⟩ := h
  rfl

theorem kb_takes (x : Kb) (hx : lgl x = true) : Takes Try.prog (tabT T) ra base 0 (codeOf 4 pB) (mkT 235 (kbE.ins x)) (hp 0 (kbE.blks x)) fun z => PostL 235 x z kbE.alts := by
  have hE := tabT_plain T
  have hS := S3_ok (ra := ra) (base := base) T
  obtain ⟨it, m, y, l, f, i, r, k⟩ := x
  simp only [lgl, Bool.and_eq_true, decide_eq_true_eq] at hx
  obtain ⟨h1, h2, h3, h4, h5, h6, h7⟩ := hx
  have o : okSrc ⟨.full, y⟩ = true := by rw [okSrc, h1]; rfl
  have d1 : decide (y.f < f) = false := decide_eq_false (by omega)
  have d2 : decide (y.pl = wr .i64 (i + 1)) = true := decide_eq_true h5
  have d3 : decide (0 ≤ i) = true := decide_eq_true h3
  clear h5
  by_cases k4 : k = 4
  · subst k4
    rw [if_pos rfl] at h7
    simp only [Bool.and_eq_true] at h7
    obtain ⟨n1, h8⟩ := h7
    have := noRec_of n1
    subst this
    simp only [lgl4, Kb.im, Kb.tm, Bool.and_eq_true, Bool.or_eq_true] at h8
    obtain ⟨e1, e2, e3⟩ := h8
    have e1 : decide (y.f = 1152921504606846976) = true := e1
    refine takes_of_tree hE (wE hE hS) (f := 4) (.inr (by kernel_rfl)) (hp_below _) (kb_ends T l i f it m y) ?_
    simp only [Nat.zero_add]
    simp only [Tree.holds, o, d1, d2, d3, e1, e2, Bool.and_self, Bool.and_true, Bool.true_and, true_and, decide_true, Bool.not_true, Bool.false_eq_true, false_implies, forall_const, and_true, Bool.true_eq_false, decide_eq_true_eq, decide_eq_false_iff_not]
    have yes : PostL 235 ⟨it, m, y, l, f, i, noRec, 4⟩ (.ret, mkT 235 [(4, .bool true)], []) kbE.alts := .inl ⟨(), trivial, rfl⟩
    refine ⟨fun _ => yes, fun hi => ⟨by omega, by omega, fun a => ⟨by omega, by omega, ?_⟩, fun a => ?_⟩⟩
    · rcases e3 with e3 | e3
      · exact absurd (of_decide_eq_true e3) hi
      · have e4 : decide (it.tm.getD i.toNat 0 = 1152921504606846976) = true := e3.2
        rw [e4]; exact yes
    · rcases e3 with e3 | e3
      · exact absurd (of_decide_eq_true e3) hi
      · rw [e3.1] at a; cases a
  · rw [if_neg k4] at h7
    by_cases k3 : k = 3
    · subst k3
      rw [if_pos rfl] at h7
      simp only [Bool.and_eq_true] at h7
      obtain ⟨n1, h8⟩ := h7
      have := noRec_of n1
      subst this
      simp only [lgl3, Kb.im, Kb.tm, Bool.and_eq_true, Bool.or_eq_true] at h8
      obtain ⟨e1, e2, e3⟩ := h8
      have e1 := of_decide_eq_true e1
      have d4 : decide (i = (m : Int)) = false := decide_eq_false (by omega)
      have d5 : decide (i < (m : Int)) = true := decide_eq_true e1
      have d6 : decide (i.toNat < it.im.length) = true := decide_eq_true (by omega)
      refine takes_of_tree hE (wE hE hS) (f := 4) (.inr (by kernel_rfl)) (hp_below _) (kb_mark T l i f it m y) ?_
      simp only [Nat.zero_add]
      have go : PostL 235 ⟨it, m, y, l, f, i, noRec, 3⟩ (.normal, mkT 235 (Kp.at ⟨⟨true, it, m, y⟩, l⟩ y.f i), hp 0 (One.blks ⟨true, it, m, y⟩)) kbE.alts := .inr ⟨(), by show (3 : Int) ≠ 4; decide, rfl⟩
      simp only [Tree.holds, o, d1, d2, d3, d4, d5, d6, e2, Bool.and_self, Bool.and_true, Bool.true_and, true_and, decide_true, Bool.not_true, Bool.not_false, Bool.false_eq_true, false_implies, forall_const, and_true, Bool.true_eq_false, decide_eq_true_eq, decide_eq_false_iff_not]
      have hx : ¬ f < y.f ∨ y.f = wr .i64 (it.tm.getD i.toNat 0 - wr .i64 (Int.tmod l 51)) := by
        rcases e3 with e3 | e3
        · have e3 := of_decide_eq_true e3
          exact .inl (by omega)
        · exact .inr (of_decide_eq_true e3)
      refine ⟨fun _ => ⟨fun a => ⟨fun b => ?_, fun b => go⟩, fun a => go⟩, fun _ => ⟨fun a => ⟨fun b => ?_, fun b => go⟩, fun a => go⟩⟩
      · rcases hx with hx | hx
        · exact absurd a hx
        · rw [decide_eq_true hx] at b; cases b
      · rcases hx with hx | hx
        · exact absurd a hx
        · rw [decide_eq_true hx] at b; cases b
    · rw [if_neg k3] at h7
      by_cases k2 : k = 2
      · subst k2
        rw [if_pos rfl] at h7
        simp only [lgl2, lglR, Kb.im, Kb.rt, Bool.and_eq_true, Bool.not_eq_true'] at h7
        obtain ⟨⟨e1, e2, e3, e4, e5⟩, e6, e7, e8, e9⟩ := h7
        have e1 := of_decide_eq_true e1
        have e7 : r.err = outT (it.rt.getD i.toNat 0) := of_decide_eq_true e7
        have e9 : (if outT (it.rt.getD i.toNat 0) = true then decide (r.val = 0) else decide (it.rt.getD i.toNat 0 < f) && decide (r.val = it.vl.getD i.toNat 0)) = true := e9
        have e8 : r.late = !outT (it.rt.getD i.toNat 0) := of_decide_eq_true e8
        have d4 : decide (i = (m : Int)) = false := decide_eq_false (by omega)
        have d5 : decide (i < (m : Int)) = true := decide_eq_true e1
        have d6 : decide (i.toNat < it.im.length) = true := decide_eq_true (by omega)
        have x3 : decide (r.time = y.f) = true := decide_eq_true ((of_decide_eq_true e6).trans (of_decide_eq_true e3).symm)
        have x5 : decide (r.key = it.ky.getD i.toNat 0) = true := e4
        have x6 : decide (r.side = it.sd.getD i.toNat 0) = true := e5
        have x7 : decide (y.f = f) = true := e3
        have hyf : y.f = f := of_decide_eq_true e3
        refine takes_of_tree hE (wE hE hS) (f := 4) (.inr (by kernel_rfl)) (hp_below _) (kb_strt T l i f it m y r) ?_
        simp only [Nat.zero_add]
        have go : PostL 235 ⟨it, m, y, l, f, i, r, 2⟩ (.normal, mkT 235 (Kp.at ⟨⟨true, it, m, y⟩, l⟩ y.f i), hp 0 (One.blks ⟨true, it, m, y⟩)) kbE.alts := .inr ⟨(), by show (2 : Int) ≠ 4; decide, rfl⟩
        cases ho : outT (it.rt.getD i.toNat 0) with
        | true =>
          rw [ho] at e7 e8 e9
          have e8 : r.late = false := e8
          have x8 : decide (r.val = 0) = true := e9
          by_cases hn : it.rt.getD i.toNat 0 < 0
          · have x1 : decide (it.rt.getD i.toNat 0 < 0) = true := decide_eq_true hn
            simp only [Tree.holds, o, d1, d2, d3, d4, d5, d6, e2, x1, x3, x5, x6, x7, x8, e7, e8, Bool.and_self, Bool.and_true, Bool.true_and, true_and, decide_true, decide_false, Bool.not_true, Bool.not_false, Bool.false_eq_true, false_implies, forall_const, and_true, Bool.true_eq_false, decide_eq_true_eq, decide_eq_false_iff_not]
            exact go
          · have x1 : decide (it.rt.getD i.toNat 0 < 0) = false := decide_eq_false hn
            have x2 : decide (1099511627776 < it.rt.getD i.toNat 0) = true := decide_eq_true (by have := out_iff.1 ho; omega)
            simp only [Tree.holds, o, d1, d2, d3, d4, d5, d6, e2, x1, x2, x3, x5, x6, x7, x8, e7, e8, Bool.and_self, Bool.and_true, Bool.true_and, true_and, decide_true, decide_false, Bool.not_true, Bool.not_false, Bool.false_eq_true, false_implies, forall_const, and_true, Bool.true_eq_false, decide_eq_true_eq, decide_eq_false_iff_not]
            exact go
        | false =>
          rw [ho] at e7 e8 e9
          have e8 : r.late = true := e8
          simp only [Bool.false_eq_true, if_false, Bool.and_eq_true] at e9
          obtain ⟨q1, q2⟩ := out_no.1 ho
          have x1 : decide (it.rt.getD i.toNat 0 < 0) = false := decide_eq_false (by omega)
          have x2 : decide (1099511627776 < it.rt.getD i.toNat 0) = false := decide_eq_false (by omega)
          have x8 : decide (r.val = it.vl.getD i.toNat 0) = true := e9.2
          have x9 : decide (y.f ≤ it.rt.getD i.toNat 0) = false := decide_eq_false (by have := of_decide_eq_true e9.1; omega)
          simp only [Tree.holds, o, d1, d2, d3, d4, d5, d6, e2, x1, x2, x3, x5, x6, x7, x8, x9, e7, e8, Bool.and_self, Bool.and_true, Bool.true_and, true_and, decide_true, decide_false, Bool.not_true, Bool.not_false, Bool.false_eq_true, false_implies, forall_const, and_true, Bool.true_eq_false, decide_eq_true_eq, decide_eq_false_iff_not]
          exact go
      · rw [if_neg k2] at h7
        simp only [Bool.and_eq_true] at h7
        obtain ⟨k1, h8⟩ := h7
        have k1 := of_decide_eq_true k1
        subst k1
        simp only [lgl1, lglR, Kb.im, Kb.rt, Bool.and_eq_true, Bool.not_eq_true'] at h8
        obtain ⟨⟨e1, e2, e3, e4, e5⟩, e6, e7, e8, e9, e10, e11⟩ := h8
        obtain ⟨q1, q2⟩ := out_no.1 e7
        have e1 := of_decide_eq_true e1
        have d4 : decide (i = (m : Int)) = false := decide_eq_false (by omega)
        have d5 : decide (i < (m : Int)) = true := decide_eq_true e1
        have d6 : decide (i.toNat < it.im.length) = true := decide_eq_true (by omega)
        have x1 : decide (it.rt.getD i.toNat 0 < 0) = false := decide_eq_false (by omega)
        have x2 : decide (1099511627776 < it.rt.getD i.toNat 0) = false := decide_eq_false (by omega)
        have x3 : decide (r.time = it.rt.getD i.toNat 0) = true := e6
        have x4 : decide (r.time < y.f) = false := decide_eq_false (by
          have a1 := of_decide_eq_true e3
          have a2 := of_decide_eq_true e6
          have a3 := of_decide_eq_false e8
          omega)
        have x5 : decide (r.key = it.ky.getD i.toNat 0) = true := e4
        have x6 : decide (r.side = it.sd.getD i.toNat 0) = true := e5
        have x7 : decide (y.f = f) = true := e3
        have x8 : decide (r.val = it.vl.getD i.toNat 0) = true := e11
        refine takes_of_tree hE (wE hE hS) (f := 4) (.inr (by kernel_rfl)) (hp_below _) (kb_goes T l i f it m y r) ?_
        simp only [Nat.zero_add]
        have go : PostL 235 ⟨it, m, y, l, f, i, r, 1⟩ (.normal, mkT 235 (Kp.at ⟨⟨true, it, m, y⟩, l⟩ y.f i), hp 0 (One.blks ⟨true, it, m, y⟩)) kbE.alts := .inr ⟨(), by show (1 : Int) ≠ 4; decide, rfl⟩
        simp only [Tree.holds, o, d1, d2, d3, d4, d5, d6, e2, x1, x2, x3, x4, x5, x6, x7, x8, e9, e10, Bool.and_self, Bool.and_true, Bool.true_and, true_and, decide_true, Bool.not_true, Bool.not_false, Bool.false_eq_true, false_implies, forall_const, and_true, Bool.true_eq_false, decide_eq_true_eq, decide_eq_false_iff_not]
        exact go
end
end Go.Proofs.Ytbpcfjhnkjobaaa
