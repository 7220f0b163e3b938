/- acc: AccOrder, along its code: values there are. -/
import Derived.Test.YtebpekgijakonaaP05k
namespace Go.Proofs.Ytebpekgijakonaa
open Ab

section
variable {xs ch : List Int} {ra : Nat → Nat → Nat × Nat} {base : Nat} {C : AVal}

abbrev Tk0 (xs ch : List Int) (ra : Nat → Nat → Nat × Nat) (base : Nat) (p : List Bool) (ts : List (Nat × AVal)) (bs : List Blk) (Q : State → Prop) : Prop :=
  Takes Try.prog (tabO xs ch) ra base 0 (codeOf 5 p) (mkT 160 ts) (hp 0 bs) Q

theorem tk0_seq {p : List Bool} (hs : codeOf 5 p = .seq (codeOf 5 (false :: p)) (codeOf 5 (true :: p))) {ts ts' : List (Nat × AVal)} {bs bs' : List Blk} {Q : State → Prop}
    (h1 : Tk0 xs ch ra base (false :: p) ts bs fun y => y = (.normal, mkT 160 ts', hp 0 bs')) (h2 : Tk0 xs ch ra base (true :: p) ts' bs' Q) : Tk0 xs ch ra base p ts bs Q := by
  unfold Tk0; rw [hs]
  refine takes_seq (h1.mono ?_)
  rintro y rfl
  exact h2

theorem div_facts (H L : Int) (hL : 0 ≤ L) : (H * 4294967296 + L) / 4294967296 = H + L / 4294967296 ∧ (H * 4294967296 + L) % 4294967296 = L % 4294967296 := by omega

/-- a sum of 64 bits, told by its halves -/
theorem sum_facts {S : Int} (hS : -(1000 * 9223372036854775808) ≤ S ∧ S ≤ 1000 * 9223372036854775807) {q : Qd} (hq : q.s = S) :
    (fits q.ac = true ↔ -2147483648 ≤ S / 4294967296 ∧ S / 4294967296 < 2147483648) ∧ (fits q.ac = true → wr .i64 q.ac.l = wr .i64 (wr .i64 (S / 4294967296 * 4294967296) + S % 4294967296)) := by
  subst hq
  have hok : q.ac.ok := okL_ok ac_okL
  have hf := fits_iff hok
  have hl : wr .i64 q.ac.l = (q.s % 18446744073709551616 + 9223372036854775808) % 18446744073709551616 - 9223372036854775808 := rfl
  have hh : q.ac.h = q.s / 18446744073709551616 := rfl
  rw [hl, hh] at hf
  rw [hf, hl]
  generalize q.s = S at *
  obtain ⟨h1, h2⟩ := hS
  constructor
  · omega
  · intro h
    have e1 : wr .i64 (S / 4294967296 * 4294967296) = S / 4294967296 * 4294967296 := wr_in ⟨by omega, by omega⟩
    rw [e1, wr_in ⟨by omega, by omega⟩]
    omega

/-- behind the loops -/
theorem order_tail {m : Nat} (hm : 1 ≤ m) (hm' : m ≤ xs.length) (hb : m ≤ 100) (hxs : ∀ v ∈ xs, in64 v) :
    Tk0 xs ch ra base [true, true, true, true, true, true, true, true] (tsE m 1 (sH (xs.take m)) (sL (xs.take m))) [(tot (xs.take m)).ac.blk, rowB [(tot (xs.take m)).ac]]
      fun y => (y.1 = .ret ∨ y.1 = .normal) ∧ y.2.1.getD 4 .undef = .bool true := by
  have hP := tabO_plain xs ch
  have htl : (xs.take m).length = (m - 1) + 1 := by rw [List.length_take]; omega
  obtain ⟨_, t2, t3, t4⟩ := tot_facts (m - 1) (xs.take m) htl fun w hw => hxs w (List.mem_of_mem_take hw)
  have hH := sH_bound (xs.take m) fun w hw => hxs w (List.mem_of_mem_take hw)
  have hL := sL_bound (xs.take m)
  rw [htl] at hH hL
  have hn : (tot (xs.take m)).n = (m : Int) := by rw [t3]; omega
  rw [show ((m - 1 + 1 : Nat) : Int) = (m : Int) by omega] at hH hL
  have hmm : (m : Int) ≤ 100 := by omega
  have hm1 : ¬ (m : Int) = 0 := by omega
  generalize sH (xs.take m) = H at *
  generalize sL (xs.take m) = L at *
  generalize tot (xs.take m) = T at *
  have hS : -(1000 * 9223372036854775808) ≤ T.s ∧ T.s ≤ 1000 * 9223372036854775807 := by rw [t4]; omega
  have hR : -9223372036854775808 ≤ H + L / 4294967296 ∧ H + L / 4294967296 < 9223372036854775808 := by omega
  have hL0 := hL.1
  have e0 : Int.fdiv L 4294967296 = L / 4294967296 := Int.fdiv_eq_ediv_of_nonneg _ (by decide)
  have e1 : wr .i64 (H + Int.fdiv L 4294967296) = T.s / 4294967296 := by
    rw [t4, (div_facts H L hL0).1, e0, wr_in hR]
  have e2 : wr .i64 ((Int.toNat (L % 18446744073709551616) &&& 4294967295 : Nat) : Int) = T.s % 4294967296 := by
    rw [and_low, t4, (div_facts H L hL0).2]
  obtain ⟨f1, f2⟩ := sum_facts (S := T.s) (q := T) hS rfl
  generalize T.s / 4294967296 = H' at *
  generalize T.s % 4294967296 = L' at *
  have hF : fits T.ac = (decide (-2147483648 ≤ H') && decide (H' < 2147483648)) := by
    rw [Bool.eq_iff_iff, f1, Bool.and_eq_true, decide_eq_true_eq, decide_eq_true_eq]
  refine tk0_seq (p := [true, true, true, true, true, true, true, true]) (ts' := tsE m 1 H L) (bs' := [T.ac.blk, rowB [T.ac]]) (by kernel_rfl) (takes_of_tree (ra := ra) (base := base) (Q := fun y => y = (.normal, mkT 160 (tsE m 1 H L), hp 0 [T.ac.blk, rowB [T.ac]])) hP wO (f := 5) (.inr (by kernel_rfl)) (hp_below _) (or8 m H L T.ac xs ch) ⟨fun h => absurd (of_decide_eq_true h) hm1, fun _ => rfl⟩).free ?_
  refine tk0_seq (p := [true, true, true, true, true, true, true, true, true]) (ts' := tsE m 1 H' L) (bs' := [T.ac.blk, rowB [T.ac]]) (by kernel_rfl) ?_ ?_
  · have := (takes_of_tree (ra := ra) (base := base) (Q := fun y => y = (.normal, mkT 160 (tsE m 1 (wr .i64 (H + Int.fdiv L 4294967296)) L), hp 0 [T.ac.blk, rowB [T.ac]])) hP wO (f := 5) (.inr (by kernel_rfl)) (hp_below _) (or9 m H L T.ac xs ch) rfl).free
    rw [e1] at this; exact this
  refine tk0_seq (p := [true, true, true, true, true, true, true, true, true, true]) (ts' := tsE m 1 H' L') (bs' := [T.ac.blk, rowB [T.ac]]) (by kernel_rfl) ?_ ?_
  · have := (takes_of_tree (ra := ra) (base := base) (Q := fun y => y = (.normal, mkT 160 (tsE m 1 H' (wr .i64 ((Int.toNat (L % 18446744073709551616) &&& 4294967295 : Nat) : Int))), hp 0 [T.ac.blk, rowB [T.ac]])) hP wO (f := 5) (.inr (by kernel_rfl)) (hp_below _) (or10 m H' L T.ac xs ch) rfl).free
    rw [e2] at this; exact this
  refine tk0_seq (p := [true, true, true, true, true, true, true, true, true, true, true]) (ts' := tsE m 1 H' L' ++ [(14, .bool (fits T.ac))]) (bs' := [T.ac.blk, rowB [T.ac]]) (by kernel_rfl) ?_ ?_
  · rw [hF]
    refine (takes_of_tree (ra := ra) (base := base) (Q := fun y => y = (.normal, mkT 160 (tsE m 1 H' L' ++ [(14, .bool (decide (-2147483648 ≤ H') && decide (H' < 2147483648)))]), hp 0 [T.ac.blk, rowB [T.ac]])) hP wO (f := 5) (.inr (by kernel_rfl)) (hp_below _) (or11 m H' L' T.ac xs ch) ⟨fun h => ?_, fun h => ?_⟩).free
    · rw [h]; rfl
    · rw [h]; rfl
  refine tk0_seq (p := [true, true, true, true, true, true, true, true, true, true, true, true]) (ts' := tsE m 1 H' L' ++ [(14, AVal.bool (fits T.ac)), (15, AVal.int .i64 (resV T.ac 1)), (16, AVal.bool (resB T.ac 1))]) (bs' := [T.ac.blk, rowB [T.ac]]) (by kernel_rfl) (takes_of_tree (ra := ra) (base := base) (Q := fun y => y = (.normal, mkT 160 (tsE m 1 H' L' ++ [(14, AVal.bool (fits T.ac)), (15, AVal.int .i64 (resV T.ac 1)), (16, AVal.bool (resB T.ac 1))]), hp 0 [T.ac.blk, rowB [T.ac]])) hP wO (f := 5) (.inr (by kernel_rfl)) (hp_below _) (or12 m H' L' 0 (fits T.ac) false T.ac xs ch) (by simp only [Tree.holds, tsE, List.cons_append, List.nil_append, hp, rowB, Ac.blk, List.map_cons, List.map_nil, List.length_cons, List.length_nil])).free ?_
  refine tk0_seq (p := [true, true, true, true, true, true, true, true, true, true, true, true, true]) (ts' := [(4, .bool true)]) (bs' := [T.ac.blk]) (by kernel_rfl) (takes_of_tree (ra := ra) (base := base) (Q := fun y => y = (.normal, mkT 160 ([(4, .bool true)]), hp 0 [T.ac.blk])) hP wO (f := 5) (.inr (by kernel_rfl)) (hp_below _) (or13 m H' L' (resV T.ac 1) (fits T.ac) (resB T.ac 1) T.ac xs ch) ?_).free ?_
  · have hnn : T.ac.n = (m : Int) := hn
    have hv : fits T.ac = true → resV T.ac 1 = wr .i64 (wr .i64 (H' * 4294967296) + L') := fun h => by
      rw [← f2 h]; simp [resV, h]
    have hb : resB T.ac 1 = fits T.ac := rfl
    have hd : decide (T.ac.n = (m : Int)) = true := by rw [hnn]; exact decide_eq_true rfl
    rw [hb]
    refine ⟨fun _ => ⟨fun _ => ⟨fun _ => ?_, fun h => ⟨fun _ => ?_, fun h' => ?_⟩⟩, fun h => ?_⟩, fun h => ?_⟩
    · simp only [Tree.holds, hnn, decide_true, hp, rowB, Ac.blk, List.map_cons, List.map_nil, List.length_cons, List.length_nil]
    · simp only [Tree.holds, hnn, decide_true, hp, rowB, Ac.blk, List.map_cons, List.map_nil, List.length_cons, List.length_nil]
    · have : fits T.ac = true := by simpa using h
      rw [hv this] at h'; simp at h'
    · simp at h
    · simp at h
  exact takes_of_tree (pl := [true, true, true, true, true, true, true, true, true, true, true, true, true, true]) (p := .leaf [] 16) (T := .leaf (.ret, mkT 160 [(4, .bool true)], [])) hP wO (f := 5) (.inr (by kernel_rfl)) (hp_below _) (by kernel_rfl) ⟨.inl rfl, rfl⟩
end

end Go.Proofs.Ytebpekgijakonaa
