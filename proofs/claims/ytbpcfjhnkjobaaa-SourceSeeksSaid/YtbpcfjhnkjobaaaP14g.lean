/- source: SourcePlays as a whole. -/
import Derived.Test.YtbpcfjhnkjobaaaP14f
import Derived.Test.YtbpcfjhnkjobaaaT14d
set_option linter.unusedSimpArgs false
namespace Go.Proofs.Ytbpcfjhnkjobaaa
open Ab

section
variable {ra : Nat → Nat → Nat × Nat} {base : Nat} {T : Tb}

theorem pl_loop {x : Thr} (hV : okV 1 T.st.length x.V = true) {full : Bool} {it : Items} (hit : it.im.length ≤ 1002) {y : Sr} (h : okBoth full y = true) :
    Takes Try.prog (tabT T) ra base 0 (.loop (codeOf 3 (false :: pL))) (mkT 100 (plAt x full it 0)) (hp 0 (bothB full it y)) fun z => z = (.exit 2, mkT 100 (x.ts full it), hp 0 (itB full it)) := by
  refine takes_loop (fun m ts h => ∃ (i : Nat) (y' : Sr), i ≤ 200 ∧ m = 200 - i + 1 ∧ okBoth full y' = true ∧ ts = mkT 100 (plAt x full it i) ∧ h = hp 0 (bothB full it y')) (fun ts h => by rintro ⟨i, y', _, h, _⟩; omega) (fun m ts h' => ?_) (j := 201) ⟨0, y, Nat.zero_le _, rfl, h, rfl, rfl⟩
  rintro ⟨i, y', k1, k2, k3, rfl, rfl⟩
  refine (pl_step hV hit k3 k1).mono ?_
  rintro z (⟨g1, y'', g2, rfl⟩ | rfl)
  · exact ⟨i + 1, y'', by omega, by omega, g2, rfl, rfl⟩
  · rfl

theorem pl_off {x : Thr} (hV : okV 1 T.st.length x.V = true) (full : Bool) (it : Items) :
    Takes Try.prog (tabT T) ra base 0 (.loop (codeOf 3 (false :: pL))) (mkT 100 (plIns (.o x full it))) (hp 0 (itB full it)) fun z => z = (.exit 2, mkT 100 (x.ts full it), hp 0 (itB full it)) := by
  have hE := tabT_plain T
  have hS := S4_ok (ra := ra) (base := base) T
  refine takes_loop (fun m ts h => m = 1 ∧ ts = mkT 100 (plIns (.o x full it)) ∧ h = hp 0 (itB full it)) (fun ts h => by rintro ⟨h, _⟩; omega) (fun m ts h' => ?_) (j := 1) ⟨rfl, rfl, rfl⟩
  rintro ⟨_, rfl, rfl⟩
  obtain ⟨V, a, b, j⟩ := x
  simp only at hV
  rcases okV_cases hV with ⟨rfl, _⟩ | rfl <;> cases full
  · exact takes_of_tree hE (wE hE hS) (f := 3) (.inr (by kernel_rfl)) (hp_below _) (pl_noneN0 T a b j it) rfl
  · exact takes_of_tree hE (wE hE hS) (f := 3) (.inr (by kernel_rfl)) (hp_below _) (pl_none0 T a b j it) rfl
  · exact takes_of_tree hE (wE hE hS) (f := 3) (.inr (by kernel_rfl)) (hp_below _) (pl_noneN T T.st.length a b j it) ⟨fun _ => rfl, fun _ => rfl⟩
  · exact takes_of_tree hE (wE hE hS) (f := 3) (.inr (by kernel_rfl)) (hp_below _) (pl_none T T.st.length a b j it) ⟨fun _ => rfl, fun _ => rfl⟩

theorem TP_ok (T : Tb) : ToldsOK Try.prog (tabT T) ra base 0 (TP T) := by
  refine sumT_ok noT_ok rfl (toldR_ok (c := .loop (codeOf 3 (false :: pL))) (by kernel_rfl) fun y hy => ?_)
  cases y with
  | b x full it y =>
    simp only [plD, Bool.and_eq_true, decide_eq_true_eq] at hy
    refine (pl_loop hy.1 hy.2.2 hy.2.1).mono ?_
    rintro z rfl
    exact ⟨(), trivial, rfl⟩
  | o x full it =>
    refine (pl_off hy full it).mono ?_
    rintro z rfl
    exact ⟨(), trivial, rfl⟩

theorem many_le (T : Tb) : many T ≤ 1002 := by simp only [many]; omega
theorem many_pos {T : Tb} {V : AVal} (h : noDr T V = false) : 0 < many T := by
  have : ¬ T.w.length = 0 := fun hh => by rw [noDr_iff.2 hh] at h; cases h
  simp only [many]; omega

theorem nw_nil (late : Int) : okNw ⟨false, .none, 0, late⟩ = true := rfl
theorem nw_full {T : Tb} {V : AVal} (h : noDr T V = false) (late : Int) : okNw ⟨true, draft T (many T), many T, late⟩ = true :=
  okNw_iff.2 ⟨by rw [draft_im]; exact draft_lens T _, by rw [draft_im]; exact Nat.le_refl _, .inl ⟨rfl, many_pos h⟩⟩

theorem both_nil {late : Int} (h : badNw ⟨false, .none, 0, late⟩ = false) : okBoth false ⟨.none, late, 0, 0, false⟩ = true := by
  obtain ⟨h1, h2, h3⟩ := badNw_no.1 h
  exact okBoth_iff.2 ⟨okSr_iff.2 ⟨rfl, by simp [Items.none], h2, h3, Int.le_refl _, by show (0 : Int) ≤ far; decide, Int.le_refl _, by simp [Items.none], fun _ => by simp [Items.none]⟩, fun _ => rfl⟩
theorem both_full {T : Tb} {late : Int} (h : badNw ⟨true, draft T (many T), many T, late⟩ = false) : okBoth true ⟨draft T (many T), late, 0, 0, false⟩ = true := by
  obtain ⟨h1, h2, h3⟩ := badNw_no.1 h
  refine okBoth_iff.2 ⟨okSr_iff.2 ⟨?_, ?_, h2, h3, Int.le_refl _, by show (0 : Int) ≤ far; decide, Int.le_refl _, ?_, fun _ => ?_⟩, fun hh => by cases hh⟩
  · simp only [draft_im]; exact draft_lens T _
  · simp only [draft_im]; exact h1
  · simp only; omega
  · simp only; omega

theorem draft_take (T : Tb) (k : Nat) : (draft T k).take k = draft T k := by
  simp only [Items.take, draft, take_full (dIms_len T k), take_full (dTms_len T k), take_full (dRts_len T k), take_full (firstI_len _ k), take_full (firstB_len _ k)]

theorem plays_gives {V U : AVal} (hV : okV 0 T.w.length V = true) (hU : okV 1 T.st.length U = true) (late : Int) :
    Gives Try.prog (tabT T) ra base 0 3 [V, .int .i64 late, U] (hp 0 []) fun v _ => v = .bool true := by
  have hE := tabT_plain T
  have hS := S4_ok (ra := ra) (base := base) T
  have hT := TP_ok (ra := ra) (base := base) T
  have hn : ∀ late, okNw ⟨false, .none, 0, late⟩ = true := nw_nil
  have h02 : (0 : Nat) ≤ 1002 := by decide
  have hD : (⟨dIms T (many T), dTms T (many T), firstI T.it.ky (many T), dRts T (many T), firstI T.it.vl (many T), firstI T.it.sd (many T), firstB T.it.er (many T), firstB T.it.lt (many T)⟩ : Items) = draft T (many T) := rfl
  rcases okV_cases hV with ⟨rfl, h0⟩ | rfl
  · have hd : noDr T .nils = true := noDr_iff.2 h0
    rcases okV_cases hU with ⟨rfl, _⟩ | rfl
    · refine gives_of_treeQ hE (wE hE hS) hT (hp_below _) (pl_callNN T late) ?_
      generalize (if 0 < Int.tmod late 50 then Int.tmod late 50 else 0) = late2
      cases c1 : badNw ⟨false, .none, 0, late⟩ <;> cases c2 : badNw ⟨false, .none, 0, late2⟩ <;>
        simp only [TreeQ.holds, Items.none, List.length_nil, decide_true, Bool.and_self, Bool.and_true, Bool.true_and, true_and, hd, hV, hU, Bool.not_true, Bool.not_false] at c1 c2 ⊢ <;>
        simp only [c1, c2, hn, forall_const, reduceCtorEq, false_implies, and_true, true_and, List.cons.injEq, exists_eq_left', Bool.not_true, Bool.not_false, Bool.and_self, h02, decide_true]
      · exact ⟨by rw [Bool.and_true]; exact both_nil c1, by rw [Bool.and_true]; exact both_nil c2, _, rfl, rfl⟩
      · exact ⟨by rw [Bool.and_true]; exact both_nil c1, _, rfl, rfl⟩
      · exact ⟨by rw [Bool.and_true]; exact both_nil c2, _, rfl, rfl⟩
      · exact ⟨_, rfl, rfl⟩
    · refine gives_of_treeQ hE (wE hE hS) hT (hp_below _) (pl_callNS T T.st.length late) ?_
      generalize (if 0 < Int.tmod late 50 then Int.tmod late 50 else 0) = late2
      cases c1 : badNw ⟨false, .none, 0, late⟩ <;> cases c2 : badNw ⟨false, .none, 0, late2⟩ <;>
        simp only [TreeQ.holds, Items.none, List.length_nil, decide_true, Bool.and_self, Bool.and_true, Bool.true_and, true_and, hd, hV, hU, Bool.not_true, Bool.not_false] at c1 c2 ⊢ <;>
        simp only [c1, c2, hn, forall_const, reduceCtorEq, false_implies, and_true, true_and, List.cons.injEq, exists_eq_left', Bool.not_true, Bool.not_false, Bool.and_self, h02, decide_true]
      · exact ⟨by rw [Bool.and_true]; exact both_nil c1, by rw [Bool.and_true]; exact both_nil c2, _, rfl, rfl⟩
      · exact ⟨by rw [Bool.and_true]; exact both_nil c1, _, rfl, rfl⟩
      · exact ⟨by rw [Bool.and_true]; exact both_nil c2, _, rfl, rfl⟩
      · exact ⟨_, rfl, rfl⟩
  · cases hd : noDr T (.slice (.ro 0 0 0 0) T.w.length none) with
    | true =>
    rcases okV_cases hU with ⟨rfl, _⟩ | rfl
    · refine gives_of_treeQ hE (wE hE hS) hT (hp_below _) (pl_callSN T T.w.length late) ?_
      generalize (if 0 < Int.tmod late 50 then Int.tmod late 50 else 0) = late2
      cases c1 : badNw ⟨false, .none, 0, late⟩ <;> cases c2 : badNw ⟨false, .none, 0, late2⟩ <;>
        simp only [TreeQ.holds, Items.none, List.length_nil, decide_true, Bool.and_self, Bool.and_true, Bool.true_and, true_and, hd, hV, hU, Bool.not_true, Bool.not_false] at c1 c2 ⊢ <;>
        simp only [c1, c2, hn, forall_const, reduceCtorEq, false_implies, and_true, true_and, List.cons.injEq, exists_eq_left', Bool.not_true, Bool.not_false, Bool.and_self, h02, decide_true]
      · exact ⟨by rw [Bool.and_true]; exact both_nil c1, by rw [Bool.and_true]; exact both_nil c2, _, rfl, rfl⟩
      · exact ⟨by rw [Bool.and_true]; exact both_nil c1, _, rfl, rfl⟩
      · exact ⟨by rw [Bool.and_true]; exact both_nil c2, _, rfl, rfl⟩
      · exact ⟨_, rfl, rfl⟩
    · refine gives_of_treeQ hE (wE hE hS) hT (hp_below _) (pl_call T T.w.length T.st.length late) ?_
      generalize (if 0 < Int.tmod late 50 then Int.tmod late 50 else 0) = late2
      cases c1 : badNw ⟨false, .none, 0, late⟩ <;> cases c2 : badNw ⟨false, .none, 0, late2⟩ <;>
        simp only [TreeQ.holds, Items.none, List.length_nil, decide_true, Bool.and_self, Bool.and_true, Bool.true_and, true_and, hd, hV, hU, Bool.not_true, Bool.not_false] at c1 c2 ⊢ <;>
        simp only [c1, c2, hn, forall_const, reduceCtorEq, false_implies, and_true, true_and, List.cons.injEq, exists_eq_left', Bool.not_true, Bool.not_false, Bool.and_self, h02, decide_true]
      · exact ⟨by rw [Bool.and_true]; exact both_nil c1, by rw [Bool.and_true]; exact both_nil c2, _, rfl, rfl⟩
      · exact ⟨by rw [Bool.and_true]; exact both_nil c1, _, rfl, rfl⟩
      · exact ⟨by rw [Bool.and_true]; exact both_nil c2, _, rfl, rfl⟩
      · exact ⟨_, rfl, rfl⟩
    | false =>
    have hnf : ∀ late, okNw ⟨true, draft T (many T), many T, late⟩ = true := nw_full hd
    rcases okV_cases hU with ⟨rfl, _⟩ | rfl
    · refine gives_of_treeQ hE (wE hE hS) hT (hp_below _) (pl_callSN T T.w.length late) ?_
      generalize (if 0 < Int.tmod late 50 then Int.tmod late 50 else 0) = late2
      cases c1 : badNw ⟨true, draft T (many T), many T, late⟩ <;> cases c2 : badNw ⟨true, draft T (many T), many T, late2⟩ <;>
        simp only [TreeQ.holds, dIms_len, dTms_len, dRts_len, firstI_len, firstB_len, take_full (dIms_len T _), take_full (dTms_len T _), take_full (dRts_len T _), take_full (firstI_len _ _), take_full (firstB_len _ _), hD, decide_true, Bool.and_self, Bool.and_true, Bool.true_and, true_and, hd, hV, hU, Bool.not_true, Bool.not_false] <;>
        simp only [c1, c2, hnf, many_le, draft_im, forall_const, reduceCtorEq, false_implies, and_true, true_and, List.cons.injEq, exists_eq_left', Bool.not_true, Bool.not_false, Bool.and_self, decide_true, Bool.true_and, Bool.and_true]
      · exact ⟨both_full c1, both_full c2, _, rfl, rfl⟩
      · exact ⟨both_full c1, _, rfl, rfl⟩
      · exact ⟨both_full c2, _, rfl, rfl⟩
      · exact ⟨_, rfl, rfl⟩
    · refine gives_of_treeQ hE (wE hE hS) hT (hp_below _) (pl_call T T.w.length T.st.length late) ?_
      generalize (if 0 < Int.tmod late 50 then Int.tmod late 50 else 0) = late2
      cases c1 : badNw ⟨true, draft T (many T), many T, late⟩ <;> cases c2 : badNw ⟨true, draft T (many T), many T, late2⟩ <;>
        simp only [TreeQ.holds, dIms_len, dTms_len, dRts_len, firstI_len, firstB_len, take_full (dIms_len T _), take_full (dTms_len T _), take_full (dRts_len T _), take_full (firstI_len _ _), take_full (firstB_len _ _), hD, decide_true, Bool.and_self, Bool.and_true, Bool.true_and, true_and, hd, hV, hU, Bool.not_true, Bool.not_false] <;>
        simp only [c1, c2, hnf, many_le, draft_im, forall_const, reduceCtorEq, false_implies, and_true, true_and, List.cons.injEq, exists_eq_left', Bool.not_true, Bool.not_false, Bool.and_self, decide_true, Bool.true_and, Bool.and_true]
      · exact ⟨both_full c1, both_full c2, _, rfl, rfl⟩
      · exact ⟨both_full c1, _, rfl, rfl⟩
      · exact ⟨both_full c2, _, rfl, rfl⟩
      · exact ⟨_, rfl, rfl⟩
end
end Go.Proofs.Ytbpcfjhnkjobaaa
