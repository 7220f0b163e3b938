/- oper: rounds of Apply's inner loop, by the operator's kind. -/
import Derived.Test.YtbfebjmmpiffpaaP04d
set_option linter.unusedSimpArgs false
set_option linter.unusedVariables false
namespace Go.Proofs.Ytbfebjmmpiffpaa
open Ab
section
variable {E : Nat → Nat → Seg} {ra : Nat → Nat → Nat × Nat} {base : Nat}
theorem in0S (hE : Plain E) {a b g : Int} {f : Fr} {c : Option Nat} {l o : List Rc} {i : Nat} {r : Rc} (hr : l[i]? = some r) (hl : l.length ≤ 1000000) (hlo : o.length ≤ 3000000) (ho : fullB o = true) :
    Takes Try.prog E ra base 1 (codeOf 15 (false :: p2)) (inT ⟨0, a, b, g⟩ f c l i) (inH ⟨0, a, b, g⟩ f c l o) fun y => y = (.normal, inT ⟨0, a, b, g⟩ f c l (i + 1), inH ⟨0, a, b, g⟩ f c l (o ++ makes ⟨0, a, b, g⟩ r)) := by
  obtain ⟨e1, e2, e3, e4, e5, e6, e7⟩ := cols_of hr
  obtain ⟨t1, t2, t3, t4, t5, t6⟩ := tk_of o
  have hx : inH ⟨0, a, b, g⟩ f c l o = hp 0 (Rd.blks ⟨⟨0, a, b, g⟩, f, true, [], c⟩ (Rs.of l) 4 true (Rs.of o)) := by rw [inH, ho]
  have c4 : decide (0 + o.length ≤ o.length) = true := decide_eq_true (by omega)
  have c5 : decide ((o.length + 1) * 32 ≤ 35184372088832) = true := room (by omega)
  have c6 : decide (0 + (o.length + 1) ≤ o.length + 1) = true := decide_eq_true (by omega)
  have c7 : decide ((o.length + 1 + 1) * 32 ≤ 35184372088832) = true := room (by omega)
  have c8 : decide (0 + (o.length + 1 + 1) ≤ o.length + 1 + 1) = true := decide_eq_true (by omega)
  have c9 : decide ((o.length + 1 + 1 + 1) * 32 ≤ 35184372088832) = true := room (by omega)
  rw [hx]
  refine takes_of_tree hE (wE hE sumNone_ok) (f := 15) (.inr (by kernel_rfl)) (hp_below _) (in_0_S E f a b g c (Rs.of l) (Rs.of o) (l.length : Nat) (i : Nat)) ?_
  have c1 : decide ((i : Int) < (l.length : Int)) = true := decide_eq_true (by omega)
  have c2 : decide (0 ≤ (i : Int)) = true := decide_eq_true (by omega)
  have c3 : decide (0 + Int.toNat (i : Int) < l.length) = true := decide_eq_true (by omega)
  simp only [e1, e2, e3, e4, e5, e6, t1, t2, t3, t4, t5, t6, u1, u2, c4, c5, c6, c7, c8, c9, ks_len, c1, c2, c3, Tree.holds, decide_true, Bool.and_self, Bool.and_true, Bool.true_and, true_and, Bool.not_true, Bool.true_eq_false, false_implies, and_true, forall_const]
  rw [till (by omega), inT_eq]
  refine ⟨fun h => ?_, fun h => ⟨fun h' => ?_, fun h' => ?_⟩⟩
  · rw [makes_pass (.inl h), inH_1 ho]; rfl
  · rw [makes_pass (.inr h'), inH_1 ho]; rfl
  · rw [makes_not h h', if_pos rfl, inH_1 ho]; rfl
theorem in0N (hE : Plain E) {a b g : Int} {f : Fr} {c : Option Nat} {l : List Rc} {i : Nat} {r : Rc} (hr : l[i]? = some r) (hl : l.length ≤ 1000000) :
    Takes Try.prog E ra base 1 (codeOf 15 (false :: p2)) (inT ⟨0, a, b, g⟩ f c l i) (inH ⟨0, a, b, g⟩ f c l []) fun y => y = (.normal, inT ⟨0, a, b, g⟩ f c l (i + 1), inH ⟨0, a, b, g⟩ f c l ([] ++ makes ⟨0, a, b, g⟩ r)) := by
  obtain ⟨e1, e2, e3, e4, e5, e6, e7⟩ := cols_of hr
  have hx : inH ⟨0, a, b, g⟩ f c l [] = hp 0 (Rd.blks ⟨⟨0, a, b, g⟩, f, true, [], c⟩ (Rs.of l) 4 false Rs.none) := rfl
  rw [hx]
  refine takes_of_tree hE (wE hE sumNone_ok) (f := 15) (.inr (by kernel_rfl)) (hp_below _) (in_0_N E f a b g c (Rs.of l) (l.length : Nat) (i : Nat)) ?_
  have c1 : decide ((i : Int) < (l.length : Int)) = true := decide_eq_true (by omega)
  have c2 : decide (0 ≤ (i : Int)) = true := decide_eq_true (by omega)
  have c3 : decide (0 + Int.toNat (i : Int) < l.length) = true := decide_eq_true (by omega)
  simp only [e1, e2, e3, e4, e5, e6, List.nil_append, ks_len, c1, c2, c3, Tree.holds, decide_true, Bool.and_self, Bool.and_true, Bool.true_and, true_and, Bool.not_true, Bool.true_eq_false, false_implies, and_true, forall_const]
  rw [till (by omega), inT_eq]
  refine ⟨fun h => ?_, fun h => ⟨fun h' => ?_, fun h' => ?_⟩⟩
  · rw [makes_pass (.inl h), inH_N1]; rfl
  · rw [makes_pass (.inr h'), inH_N1]; rfl
  · rw [makes_not h h', if_pos rfl, inH_N1]; rfl
theorem in1S (hE : Plain E) {a b g : Int} (ha : 1 ≤ a ∧ a ≤ 4294967295) {f : Fr} {c : Option Nat} {l o : List Rc} {i : Nat} {r : Rc} (hr : l[i]? = some r) (hl : l.length ≤ 1000000) (hlo : o.length ≤ 3000000) (ho : fullB o = true) :
    Takes Try.prog E ra base 1 (codeOf 15 (false :: p2)) (inT ⟨1, a, b, g⟩ f c l i) (inH ⟨1, a, b, g⟩ f c l o) fun y => y = (.normal, inT ⟨1, a, b, g⟩ f c l (i + 1), inH ⟨1, a, b, g⟩ f c l (o ++ makes ⟨1, a, b, g⟩ r)) := by
  obtain ⟨e1, e2, e3, e4, e5, e6, e7⟩ := cols_of hr
  obtain ⟨t1, t2, t3, t4, t5, t6⟩ := tk_of o
  have hx : inH ⟨1, a, b, g⟩ f c l o = hp 0 (Rd.blks ⟨⟨1, a, b, g⟩, f, true, [], c⟩ (Rs.of l) 4 true (Rs.of o)) := by rw [inH, ho]
  have c4 : decide (0 + o.length ≤ o.length) = true := decide_eq_true (by omega)
  have c5 : decide ((o.length + 1) * 32 ≤ 35184372088832) = true := room (by omega)
  have c6 : decide (0 + (o.length + 1) ≤ o.length + 1) = true := decide_eq_true (by omega)
  have c7 : decide ((o.length + 1 + 1) * 32 ≤ 35184372088832) = true := room (by omega)
  have c8 : decide (0 + (o.length + 1 + 1) ≤ o.length + 1 + 1) = true := decide_eq_true (by omega)
  have c9 : decide ((o.length + 1 + 1 + 1) * 32 ≤ 35184372088832) = true := room (by omega)
  rw [hx]
  refine takes_of_tree hE (wE hE sumNone_ok) (f := 15) (.inr (by kernel_rfl)) (hp_below _) (in_1_S E f a b g c (Rs.of l) (Rs.of o) (l.length : Nat) (i : Nat)) ?_
  have c1 : decide ((i : Int) < (l.length : Int)) = true := decide_eq_true (by omega)
  have c2 : decide (0 ≤ (i : Int)) = true := decide_eq_true (by omega)
  have c3 : decide (0 + Int.toNat (i : Int) < l.length) = true := decide_eq_true (by omega)
  simp only [e1, e2, e3, e4, e5, e6, t1, t2, t3, t4, t5, t6, u1, u2, c4, c5, c6, c7, c8, c9, ks_len, c1, c2, c3, Tree.holds, decide_true, Bool.and_self, Bool.and_true, Bool.true_and, true_and, Bool.not_true, Bool.true_eq_false, false_implies, and_true, forall_const]
  rw [till (by omega), inT_eq]
  refine ⟨fun h => ?_, fun h => ⟨fun h' => ?_, fun h' => ?_⟩⟩
  · rw [makes_pass (.inl h), inH_1 ho]; rfl
  · rw [makes_pass (.inr h'), inH_1 ho]; rfl
  · have hw : wr .u64 a = a := wr_u64 ⟨by omega, by omega⟩
    refine ⟨by rw [hw]; exact decide_eq_true (by omega), ?_⟩
    rw [makes_not h h', if_neg (show ¬ ((1 : Int) = 0) by decide), if_pos rfl, inH_1 ho]; rfl
theorem in1N (hE : Plain E) {a b g : Int} (ha : 1 ≤ a ∧ a ≤ 4294967295) {f : Fr} {c : Option Nat} {l : List Rc} {i : Nat} {r : Rc} (hr : l[i]? = some r) (hl : l.length ≤ 1000000) :
    Takes Try.prog E ra base 1 (codeOf 15 (false :: p2)) (inT ⟨1, a, b, g⟩ f c l i) (inH ⟨1, a, b, g⟩ f c l []) fun y => y = (.normal, inT ⟨1, a, b, g⟩ f c l (i + 1), inH ⟨1, a, b, g⟩ f c l ([] ++ makes ⟨1, a, b, g⟩ r)) := by
  obtain ⟨e1, e2, e3, e4, e5, e6, e7⟩ := cols_of hr
  have hx : inH ⟨1, a, b, g⟩ f c l [] = hp 0 (Rd.blks ⟨⟨1, a, b, g⟩, f, true, [], c⟩ (Rs.of l) 4 false Rs.none) := rfl
  rw [hx]
  refine takes_of_tree hE (wE hE sumNone_ok) (f := 15) (.inr (by kernel_rfl)) (hp_below _) (in_1_N E f a b g c (Rs.of l) (l.length : Nat) (i : Nat)) ?_
  have c1 : decide ((i : Int) < (l.length : Int)) = true := decide_eq_true (by omega)
  have c2 : decide (0 ≤ (i : Int)) = true := decide_eq_true (by omega)
  have c3 : decide (0 + Int.toNat (i : Int) < l.length) = true := decide_eq_true (by omega)
  simp only [e1, e2, e3, e4, e5, e6, List.nil_append, ks_len, c1, c2, c3, Tree.holds, decide_true, Bool.and_self, Bool.and_true, Bool.true_and, true_and, Bool.not_true, Bool.true_eq_false, false_implies, and_true, forall_const]
  rw [till (by omega), inT_eq]
  refine ⟨fun h => ?_, fun h => ⟨fun h' => ?_, fun h' => ?_⟩⟩
  · rw [makes_pass (.inl h), inH_N1]; rfl
  · rw [makes_pass (.inr h'), inH_N1]; rfl
  · have hw : wr .u64 a = a := wr_u64 ⟨by omega, by omega⟩
    refine ⟨by rw [hw]; exact decide_eq_true (by omega), ?_⟩
    rw [makes_not h h', if_neg (show ¬ ((1 : Int) = 0) by decide), if_pos rfl, inH_N1]; rfl
theorem in2S (hE : Plain E) {a b g : Int} (ha : 1 ≤ a ∧ a ≤ 1073741824) {f : Fr} {c : Option Nat} {l o : List Rc} {i : Nat} {r : Rc} (hr : l[i]? = some r) (hl : l.length ≤ 1000000) (hlo : o.length ≤ 3000000) (ho : fullB o = true) :
    Takes Try.prog E ra base 1 (codeOf 15 (false :: p2)) (inT ⟨2, a, b, g⟩ f c l i) (inH ⟨2, a, b, g⟩ f c l o) fun y => y = (.normal, inT ⟨2, a, b, g⟩ f c l (i + 1), inH ⟨2, a, b, g⟩ f c l (o ++ makes ⟨2, a, b, g⟩ r)) := by
  obtain ⟨e1, e2, e3, e4, e5, e6, e7⟩ := cols_of hr
  obtain ⟨t1, t2, t3, t4, t5, t6⟩ := tk_of o
  have hx : inH ⟨2, a, b, g⟩ f c l o = hp 0 (Rd.blks ⟨⟨2, a, b, g⟩, f, true, [], c⟩ (Rs.of l) 4 true (Rs.of o)) := by rw [inH, ho]
  have c4 : decide (0 + o.length ≤ o.length) = true := decide_eq_true (by omega)
  have c5 : decide ((o.length + 1) * 32 ≤ 35184372088832) = true := room (by omega)
  have c6 : decide (0 + (o.length + 1) ≤ o.length + 1) = true := decide_eq_true (by omega)
  have c7 : decide ((o.length + 1 + 1) * 32 ≤ 35184372088832) = true := room (by omega)
  have c8 : decide (0 + (o.length + 1 + 1) ≤ o.length + 1 + 1) = true := decide_eq_true (by omega)
  have c9 : decide ((o.length + 1 + 1 + 1) * 32 ≤ 35184372088832) = true := room (by omega)
  rw [hx]
  refine takes_of_tree hE (wE hE sumNone_ok) (f := 15) (.inr (by kernel_rfl)) (hp_below _) (in_2_S E f a b g c (Rs.of l) (Rs.of o) (l.length : Nat) (i : Nat)) ?_
  have c1 : decide ((i : Int) < (l.length : Int)) = true := decide_eq_true (by omega)
  have c2 : decide (0 ≤ (i : Int)) = true := decide_eq_true (by omega)
  have c3 : decide (0 + Int.toNat (i : Int) < l.length) = true := decide_eq_true (by omega)
  simp only [e1, e2, e3, e4, e5, e6, t1, t2, t3, t4, t5, t6, u1, u2, c4, c5, c6, c7, c8, c9, ks_len, c1, c2, c3, Tree.holds, decide_true, Bool.and_self, Bool.and_true, Bool.true_and, true_and, Bool.not_true, Bool.true_eq_false, false_implies, and_true, forall_const]
  rw [till (by omega), inT_eq]
  refine ⟨fun h => ?_, fun h => ⟨fun h' => ?_, fun h' => ?_⟩⟩
  · rw [makes_pass (.inl h), inH_1 ho]; rfl
  · rw [makes_pass (.inr h'), inH_1 ho]; rfl
  · refine ⟨decide_eq_true (by omega), ?_⟩
    have hm : makes ⟨2, a, b, g⟩ r = if leftOf ⟨2, a, b, g⟩ r = b then [r] else [] := by rw [makes_not h h', if_neg (show ¬ ((2 : Int) = 0) by decide), if_neg (show ¬ ((2 : Int) = 1) by decide), if_pos rfl]
    rw [hm]
    refine ⟨fun q => ?_, fun q => ?_⟩
    · have hq : leftOf ⟨2, a, b, g⟩ r = wr .i64 (Int.tmod r.val a + a) := if_pos (of_decide_eq_true q)
      rw [hq]
      refine ⟨fun w => ?_, fun w => ?_⟩
      · rw [if_pos (of_decide_eq_true w), inH_1 ho]; rfl
      · rw [if_neg (of_decide_eq_false w), List.append_nil, inH_S ho]; rfl
    · have hq : leftOf ⟨2, a, b, g⟩ r = Int.tmod r.val a := if_neg (of_decide_eq_false q)
      rw [hq]
      refine ⟨fun w => ?_, fun w => ?_⟩
      · rw [if_pos (of_decide_eq_true w), inH_1 ho]; rfl
      · rw [if_neg (of_decide_eq_false w), List.append_nil, inH_S ho]; rfl
theorem in2N (hE : Plain E) {a b g : Int} (ha : 1 ≤ a ∧ a ≤ 1073741824) {f : Fr} {c : Option Nat} {l : List Rc} {i : Nat} {r : Rc} (hr : l[i]? = some r) (hl : l.length ≤ 1000000) :
    Takes Try.prog E ra base 1 (codeOf 15 (false :: p2)) (inT ⟨2, a, b, g⟩ f c l i) (inH ⟨2, a, b, g⟩ f c l []) fun y => y = (.normal, inT ⟨2, a, b, g⟩ f c l (i + 1), inH ⟨2, a, b, g⟩ f c l ([] ++ makes ⟨2, a, b, g⟩ r)) := by
  obtain ⟨e1, e2, e3, e4, e5, e6, e7⟩ := cols_of hr
  have hx : inH ⟨2, a, b, g⟩ f c l [] = hp 0 (Rd.blks ⟨⟨2, a, b, g⟩, f, true, [], c⟩ (Rs.of l) 4 false Rs.none) := rfl
  rw [hx]
  refine takes_of_tree hE (wE hE sumNone_ok) (f := 15) (.inr (by kernel_rfl)) (hp_below _) (in_2_N E f a b g c (Rs.of l) (l.length : Nat) (i : Nat)) ?_
  have c1 : decide ((i : Int) < (l.length : Int)) = true := decide_eq_true (by omega)
  have c2 : decide (0 ≤ (i : Int)) = true := decide_eq_true (by omega)
  have c3 : decide (0 + Int.toNat (i : Int) < l.length) = true := decide_eq_true (by omega)
  simp only [e1, e2, e3, e4, e5, e6, List.nil_append, ks_len, c1, c2, c3, Tree.holds, decide_true, Bool.and_self, Bool.and_true, Bool.true_and, true_and, Bool.not_true, Bool.true_eq_false, false_implies, and_true, forall_const]
  rw [till (by omega), inT_eq]
  refine ⟨fun h => ?_, fun h => ⟨fun h' => ?_, fun h' => ?_⟩⟩
  · rw [makes_pass (.inl h), inH_N1]; rfl
  · rw [makes_pass (.inr h'), inH_N1]; rfl
  · refine ⟨decide_eq_true (by omega), ?_⟩
    have hm : makes ⟨2, a, b, g⟩ r = if leftOf ⟨2, a, b, g⟩ r = b then [r] else [] := by rw [makes_not h h', if_neg (show ¬ ((2 : Int) = 0) by decide), if_neg (show ¬ ((2 : Int) = 1) by decide), if_pos rfl]
    rw [hm]
    refine ⟨fun q => ?_, fun q => ?_⟩
    · have hq : leftOf ⟨2, a, b, g⟩ r = wr .i64 (Int.tmod r.val a + a) := if_pos (of_decide_eq_true q)
      rw [hq]
      refine ⟨fun w => ?_, fun w => ?_⟩
      · rw [if_pos (of_decide_eq_true w), inH_N1]; rfl
      · rw [if_neg (of_decide_eq_false w), inH_N]; rfl
    · have hq : leftOf ⟨2, a, b, g⟩ r = Int.tmod r.val a := if_neg (of_decide_eq_false q)
      rw [hq]
      refine ⟨fun w => ?_, fun w => ?_⟩
      · rw [if_pos (of_decide_eq_true w), inH_N1]; rfl
      · rw [if_neg (of_decide_eq_false w), inH_N]; rfl
theorem in3aS (hE : Plain E) {b g : Int} {f : Fr} {c : Option Nat} {l o : List Rc} {i : Nat} {r : Rc} (hr : l[i]? = some r) (hl : l.length ≤ 1000000) (hlo : o.length ≤ 3000000) (ho : fullB o = true) :
    Takes Try.prog E ra base 1 (codeOf 15 (false :: p2)) (inT ⟨3, 1, b, g⟩ f c l i) (inH ⟨3, 1, b, g⟩ f c l o) fun y => y = (.normal, inT ⟨3, 1, b, g⟩ f c l (i + 1), inH ⟨3, 1, b, g⟩ f c l (o ++ makes ⟨3, 1, b, g⟩ r)) := by
  obtain ⟨e1, e2, e3, e4, e5, e6, e7⟩ := cols_of hr
  obtain ⟨t1, t2, t3, t4, t5, t6⟩ := tk_of o
  have hx : inH ⟨3, 1, b, g⟩ f c l o = hp 0 (Rd.blks ⟨⟨3, 1, b, g⟩, f, true, [], c⟩ (Rs.of l) 4 true (Rs.of o)) := by rw [inH, ho]
  have c4 : decide (0 + o.length ≤ o.length) = true := decide_eq_true (by omega)
  have c5 : decide ((o.length + 1) * 32 ≤ 35184372088832) = true := room (by omega)
  have c6 : decide (0 + (o.length + 1) ≤ o.length + 1) = true := decide_eq_true (by omega)
  have c7 : decide ((o.length + 1 + 1) * 32 ≤ 35184372088832) = true := room (by omega)
  have c8 : decide (0 + (o.length + 1 + 1) ≤ o.length + 1 + 1) = true := decide_eq_true (by omega)
  have c9 : decide ((o.length + 1 + 1 + 1) * 32 ≤ 35184372088832) = true := room (by omega)
  rw [hx]
  refine takes_of_tree hE (wE hE sumNone_ok) (f := 15) (.inr (by kernel_rfl)) (hp_below _) (in_3a_S E f b g c (Rs.of l) (Rs.of o) (l.length : Nat) (i : Nat)) ?_
  have c1 : decide ((i : Int) < (l.length : Int)) = true := decide_eq_true (by omega)
  have c2 : decide (0 ≤ (i : Int)) = true := decide_eq_true (by omega)
  have c3 : decide (0 + Int.toNat (i : Int) < l.length) = true := decide_eq_true (by omega)
  simp only [e1, e2, e3, e4, e5, e6, t1, t2, t3, t4, t5, t6, u1, u2, c4, c5, c6, c7, c8, c9, ks_len, c1, c2, c3, Tree.holds, decide_true, Bool.and_self, Bool.and_true, Bool.true_and, true_and, Bool.not_true, Bool.true_eq_false, false_implies, and_true, forall_const]
  rw [till (by omega), inT_eq]
  refine ⟨fun h => ?_, fun h => ⟨fun h' => ?_, fun h' => ?_⟩⟩
  · rw [makes_pass (.inl h), inH_1 ho]; rfl
  · rw [makes_pass (.inr h'), inH_1 ho]; rfl
  · rw [makes_not h h', if_neg (show ¬ ((3 : Int) = 0) by decide), if_neg (show ¬ ((3 : Int) = 1) by decide), if_neg (show ¬ ((3 : Int) = 2) by decide), show copies ⟨3, 1, b, g⟩ (1 : Int).toNat r = [r] from rfl, inH_1 ho]; rfl
theorem in3aN (hE : Plain E) {b g : Int} {f : Fr} {c : Option Nat} {l : List Rc} {i : Nat} {r : Rc} (hr : l[i]? = some r) (hl : l.length ≤ 1000000) :
    Takes Try.prog E ra base 1 (codeOf 15 (false :: p2)) (inT ⟨3, 1, b, g⟩ f c l i) (inH ⟨3, 1, b, g⟩ f c l []) fun y => y = (.normal, inT ⟨3, 1, b, g⟩ f c l (i + 1), inH ⟨3, 1, b, g⟩ f c l ([] ++ makes ⟨3, 1, b, g⟩ r)) := by
  obtain ⟨e1, e2, e3, e4, e5, e6, e7⟩ := cols_of hr
  have hx : inH ⟨3, 1, b, g⟩ f c l [] = hp 0 (Rd.blks ⟨⟨3, 1, b, g⟩, f, true, [], c⟩ (Rs.of l) 4 false Rs.none) := rfl
  rw [hx]
  refine takes_of_tree hE (wE hE sumNone_ok) (f := 15) (.inr (by kernel_rfl)) (hp_below _) (in_3a_N E f b g c (Rs.of l) (l.length : Nat) (i : Nat)) ?_
  have c1 : decide ((i : Int) < (l.length : Int)) = true := decide_eq_true (by omega)
  have c2 : decide (0 ≤ (i : Int)) = true := decide_eq_true (by omega)
  have c3 : decide (0 + Int.toNat (i : Int) < l.length) = true := decide_eq_true (by omega)
  simp only [e1, e2, e3, e4, e5, e6, List.nil_append, ks_len, c1, c2, c3, Tree.holds, decide_true, Bool.and_self, Bool.and_true, Bool.true_and, true_and, Bool.not_true, Bool.true_eq_false, false_implies, and_true, forall_const]
  rw [till (by omega), inT_eq]
  refine ⟨fun h => ?_, fun h => ⟨fun h' => ?_, fun h' => ?_⟩⟩
  · rw [makes_pass (.inl h), inH_N1]; rfl
  · rw [makes_pass (.inr h'), inH_N1]; rfl
  · rw [makes_not h h', if_neg (show ¬ ((3 : Int) = 0) by decide), if_neg (show ¬ ((3 : Int) = 1) by decide), if_neg (show ¬ ((3 : Int) = 2) by decide), show copies ⟨3, 1, b, g⟩ (1 : Int).toNat r = [r] from rfl, inH_N1]; rfl
theorem in3bS (hE : Plain E) {b g : Int} {f : Fr} {c : Option Nat} {l o : List Rc} {i : Nat} {r : Rc} (hr : l[i]? = some r) (hl : l.length ≤ 1000000) (hlo : o.length ≤ 3000000) (ho : fullB o = true) :
    Takes Try.prog E ra base 1 (codeOf 15 (false :: p2)) (inT ⟨3, 2, b, g⟩ f c l i) (inH ⟨3, 2, b, g⟩ f c l o) fun y => y = (.normal, inT ⟨3, 2, b, g⟩ f c l (i + 1), inH ⟨3, 2, b, g⟩ f c l (o ++ makes ⟨3, 2, b, g⟩ r)) := by
  obtain ⟨e1, e2, e3, e4, e5, e6, e7⟩ := cols_of hr
  obtain ⟨t1, t2, t3, t4, t5, t6⟩ := tk_of o
  have hx : inH ⟨3, 2, b, g⟩ f c l o = hp 0 (Rd.blks ⟨⟨3, 2, b, g⟩, f, true, [], c⟩ (Rs.of l) 4 true (Rs.of o)) := by rw [inH, ho]
  have c4 : decide (0 + o.length ≤ o.length) = true := decide_eq_true (by omega)
  have c5 : decide ((o.length + 1) * 32 ≤ 35184372088832) = true := room (by omega)
  have c6 : decide (0 + (o.length + 1) ≤ o.length + 1) = true := decide_eq_true (by omega)
  have c7 : decide ((o.length + 1 + 1) * 32 ≤ 35184372088832) = true := room (by omega)
  have c8 : decide (0 + (o.length + 1 + 1) ≤ o.length + 1 + 1) = true := decide_eq_true (by omega)
  have c9 : decide ((o.length + 1 + 1 + 1) * 32 ≤ 35184372088832) = true := room (by omega)
  rw [hx]
  refine takes_of_tree hE (wE hE sumNone_ok) (f := 15) (.inr (by kernel_rfl)) (hp_below _) (in_3b_S E f b g c (Rs.of l) (Rs.of o) (l.length : Nat) (i : Nat)) ?_
  have c1 : decide ((i : Int) < (l.length : Int)) = true := decide_eq_true (by omega)
  have c2 : decide (0 ≤ (i : Int)) = true := decide_eq_true (by omega)
  have c3 : decide (0 + Int.toNat (i : Int) < l.length) = true := decide_eq_true (by omega)
  simp only [e1, e2, e3, e4, e5, e6, t1, t2, t3, t4, t5, t6, u1, u2, c4, c5, c6, c7, c8, c9, ks_len, c1, c2, c3, Tree.holds, decide_true, Bool.and_self, Bool.and_true, Bool.true_and, true_and, Bool.not_true, Bool.true_eq_false, false_implies, and_true, forall_const]
  rw [till (by omega), inT_eq]
  refine ⟨fun h => ?_, fun h => ⟨fun h' => ?_, fun h' => ?_⟩⟩
  · rw [makes_pass (.inl h), inH_1 ho]; rfl
  · rw [makes_pass (.inr h'), inH_1 ho]; rfl
  · rw [makes_not h h', if_neg (show ¬ ((3 : Int) = 0) by decide), if_neg (show ¬ ((3 : Int) = 1) by decide), if_neg (show ¬ ((3 : Int) = 2) by decide), show copies ⟨3, 2, b, g⟩ (2 : Int).toNat r = [r, up ⟨3, 2, b, g⟩ r] from rfl, inH_2 ho]; rfl
theorem in3bN (hE : Plain E) {b g : Int} {f : Fr} {c : Option Nat} {l : List Rc} {i : Nat} {r : Rc} (hr : l[i]? = some r) (hl : l.length ≤ 1000000) :
    Takes Try.prog E ra base 1 (codeOf 15 (false :: p2)) (inT ⟨3, 2, b, g⟩ f c l i) (inH ⟨3, 2, b, g⟩ f c l []) fun y => y = (.normal, inT ⟨3, 2, b, g⟩ f c l (i + 1), inH ⟨3, 2, b, g⟩ f c l ([] ++ makes ⟨3, 2, b, g⟩ r)) := by
  obtain ⟨e1, e2, e3, e4, e5, e6, e7⟩ := cols_of hr
  have hx : inH ⟨3, 2, b, g⟩ f c l [] = hp 0 (Rd.blks ⟨⟨3, 2, b, g⟩, f, true, [], c⟩ (Rs.of l) 4 false Rs.none) := rfl
  rw [hx]
  refine takes_of_tree hE (wE hE sumNone_ok) (f := 15) (.inr (by kernel_rfl)) (hp_below _) (in_3b_N E f b g c (Rs.of l) (l.length : Nat) (i : Nat)) ?_
  have c1 : decide ((i : Int) < (l.length : Int)) = true := decide_eq_true (by omega)
  have c2 : decide (0 ≤ (i : Int)) = true := decide_eq_true (by omega)
  have c3 : decide (0 + Int.toNat (i : Int) < l.length) = true := decide_eq_true (by omega)
  simp only [e1, e2, e3, e4, e5, e6, List.nil_append, ks_len, c1, c2, c3, Tree.holds, decide_true, Bool.and_self, Bool.and_true, Bool.true_and, true_and, Bool.not_true, Bool.true_eq_false, false_implies, and_true, forall_const]
  rw [till (by omega), inT_eq]
  refine ⟨fun h => ?_, fun h => ⟨fun h' => ?_, fun h' => ?_⟩⟩
  · rw [makes_pass (.inl h), inH_N1]; rfl
  · rw [makes_pass (.inr h'), inH_N1]; rfl
  · rw [makes_not h h', if_neg (show ¬ ((3 : Int) = 0) by decide), if_neg (show ¬ ((3 : Int) = 1) by decide), if_neg (show ¬ ((3 : Int) = 2) by decide), show copies ⟨3, 2, b, g⟩ (2 : Int).toNat r = [r, up ⟨3, 2, b, g⟩ r] from rfl, inH_N2]; rfl
theorem in3cS (hE : Plain E) {b g : Int} {f : Fr} {c : Option Nat} {l o : List Rc} {i : Nat} {r : Rc} (hr : l[i]? = some r) (hl : l.length ≤ 1000000) (hlo : o.length ≤ 3000000) (ho : fullB o = true) :
    Takes Try.prog E ra base 1 (codeOf 15 (false :: p2)) (inT ⟨3, 3, b, g⟩ f c l i) (inH ⟨3, 3, b, g⟩ f c l o) fun y => y = (.normal, inT ⟨3, 3, b, g⟩ f c l (i + 1), inH ⟨3, 3, b, g⟩ f c l (o ++ makes ⟨3, 3, b, g⟩ r)) := by
  obtain ⟨e1, e2, e3, e4, e5, e6, e7⟩ := cols_of hr
  obtain ⟨t1, t2, t3, t4, t5, t6⟩ := tk_of o
  have hx : inH ⟨3, 3, b, g⟩ f c l o = hp 0 (Rd.blks ⟨⟨3, 3, b, g⟩, f, true, [], c⟩ (Rs.of l) 4 true (Rs.of o)) := by rw [inH, ho]
  have c4 : decide (0 + o.length ≤ o.length) = true := decide_eq_true (by omega)
  have c5 : decide ((o.length + 1) * 32 ≤ 35184372088832) = true := room (by omega)
  have c6 : decide (0 + (o.length + 1) ≤ o.length + 1) = true := decide_eq_true (by omega)
  have c7 : decide ((o.length + 1 + 1) * 32 ≤ 35184372088832) = true := room (by omega)
  have c8 : decide (0 + (o.length + 1 + 1) ≤ o.length + 1 + 1) = true := decide_eq_true (by omega)
  have c9 : decide ((o.length + 1 + 1 + 1) * 32 ≤ 35184372088832) = true := room (by omega)
  rw [hx]
  refine takes_of_tree hE (wE hE sumNone_ok) (f := 15) (.inr (by kernel_rfl)) (hp_below _) (in_3c_S E f b g c (Rs.of l) (Rs.of o) (l.length : Nat) (i : Nat)) ?_
  have c1 : decide ((i : Int) < (l.length : Int)) = true := decide_eq_true (by omega)
  have c2 : decide (0 ≤ (i : Int)) = true := decide_eq_true (by omega)
  have c3 : decide (0 + Int.toNat (i : Int) < l.length) = true := decide_eq_true (by omega)
  simp only [e1, e2, e3, e4, e5, e6, t1, t2, t3, t4, t5, t6, u1, u2, c4, c5, c6, c7, c8, c9, ks_len, c1, c2, c3, Tree.holds, decide_true, Bool.and_self, Bool.and_true, Bool.true_and, true_and, Bool.not_true, Bool.true_eq_false, false_implies, and_true, forall_const]
  rw [till (by omega), inT_eq]
  refine ⟨fun h => ?_, fun h => ⟨fun h' => ?_, fun h' => ?_⟩⟩
  · rw [makes_pass (.inl h), inH_1 ho]; rfl
  · rw [makes_pass (.inr h'), inH_1 ho]; rfl
  · rw [makes_not h h', if_neg (show ¬ ((3 : Int) = 0) by decide), if_neg (show ¬ ((3 : Int) = 1) by decide), if_neg (show ¬ ((3 : Int) = 2) by decide), show copies ⟨3, 3, b, g⟩ (3 : Int).toNat r = [r, up ⟨3, 3, b, g⟩ r, up ⟨3, 3, b, g⟩ (up ⟨3, 3, b, g⟩ r)] from rfl, inH_3 ho]; rfl
theorem in3cN (hE : Plain E) {b g : Int} {f : Fr} {c : Option Nat} {l : List Rc} {i : Nat} {r : Rc} (hr : l[i]? = some r) (hl : l.length ≤ 1000000) :
    Takes Try.prog E ra base 1 (codeOf 15 (false :: p2)) (inT ⟨3, 3, b, g⟩ f c l i) (inH ⟨3, 3, b, g⟩ f c l []) fun y => y = (.normal, inT ⟨3, 3, b, g⟩ f c l (i + 1), inH ⟨3, 3, b, g⟩ f c l ([] ++ makes ⟨3, 3, b, g⟩ r)) := by
  obtain ⟨e1, e2, e3, e4, e5, e6, e7⟩ := cols_of hr
  have hx : inH ⟨3, 3, b, g⟩ f c l [] = hp 0 (Rd.blks ⟨⟨3, 3, b, g⟩, f, true, [], c⟩ (Rs.of l) 4 false Rs.none) := rfl
  rw [hx]
  refine takes_of_tree hE (wE hE sumNone_ok) (f := 15) (.inr (by kernel_rfl)) (hp_below _) (in_3c_N E f b g c (Rs.of l) (l.length : Nat) (i : Nat)) ?_
  have c1 : decide ((i : Int) < (l.length : Int)) = true := decide_eq_true (by omega)
  have c2 : decide (0 ≤ (i : Int)) = true := decide_eq_true (by omega)
  have c3 : decide (0 + Int.toNat (i : Int) < l.length) = true := decide_eq_true (by omega)
  simp only [e1, e2, e3, e4, e5, e6, List.nil_append, ks_len, c1, c2, c3, Tree.holds, decide_true, Bool.and_self, Bool.and_true, Bool.true_and, true_and, Bool.not_true, Bool.true_eq_false, false_implies, and_true, forall_const]
  rw [till (by omega), inT_eq]
  refine ⟨fun h => ?_, fun h => ⟨fun h' => ?_, fun h' => ?_⟩⟩
  · rw [makes_pass (.inl h), inH_N1]; rfl
  · rw [makes_pass (.inr h'), inH_N1]; rfl
  · rw [makes_not h h', if_neg (show ¬ ((3 : Int) = 0) by decide), if_neg (show ¬ ((3 : Int) = 1) by decide), if_neg (show ¬ ((3 : Int) = 2) by decide), show copies ⟨3, 3, b, g⟩ (3 : Int).toNat r = [r, up ⟨3, 3, b, g⟩ r, up ⟨3, 3, b, g⟩ (up ⟨3, 3, b, g⟩ r)] from rfl, inH_N3]; rfl
end
end Go.Proofs.Ytbfebjmmpiffpaa
