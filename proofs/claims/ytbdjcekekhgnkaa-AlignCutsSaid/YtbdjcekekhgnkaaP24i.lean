/- align: AlignCuts: all ways stand at the barrier: the check. -/
import Derived.Test.YtbdjcekekhgnkaaT24g
set_option linter.unusedSimpArgs false
namespace Go.Proofs.Ytbdjcekekhgnkaa
open Ab

theorem okShape_at {T : Tc} {y : Md} (h : okShape T y) {k : Nat} (hk : k < T.F.length) :
    y.ls.length = T.F.length ∧ y.fs.getD k true = false ∧ y.ls.getD k 0 = (rowAt T k).length ∧ (rowAt T k).length ≤ 100 ∧ 0 ≤ y.a.getD k 0 ∧ y.a.getD k 0 ≤ (rowAt T k).length := by
  obtain ⟨o1, o2, o3, o4, o5, o6, o7, o8, o9, o10, o11, o12, o13⟩ := h
  obtain ⟨r1, r2, r3⟩ := o13 k hk
  refine ⟨by rw [o2, List.length_map], ?_, ?_, r1, r2, r3⟩
  · rw [o3]; simp [List.getD_eq_getElem?_getD, List.getElem?_map, List.getElem?_eq_getElem hk]
  · rw [o2, rowAt]; simp [List.getD_eq_getElem?_getD, List.getElem?_map, List.getElem?_eq_getElem hk]

section
variable {ra : Nat → Nat → Nat × Nat} {base : Nat}

theorem ch_round {T : Tc} (h : Ways T) (y : Md) (hy : okChk T y) {k : Nat} (hk : k ≤ T.F.length) {Q : State → Prop}
    (q1 : k < T.F.length → Q (.normal, mkT 251 (y.ins ++ [(13, .int .i64 y.w), (14, .int .i64 ((k + 1 : Nat) : Int))]), hp 0 y.bs)) (q2 : k = T.F.length → Q (.exit 6, mkT 251 (y.ins ++ [(13, .int .i64 y.w)]), hp 0 y.bs)) :
    Takes Try.prog (tabF T) ra base 0 (codeOf 4 (false :: pCh)) (mkT 251 (y.ins ++ [(13, .int .i64 y.w), (14, .int .i64 (k : Int))])) (hp 0 y.bs) Q := by
  have hE := tabF_plain T
  have hW := W_ok (E := tabF T) (ra := ra) (base := base) (S6_ok h) noL_ok
  obtain ⟨hsh, hall⟩ := hy
  have hls : y.ls.length = T.F.length := by rw [hsh.2.1, List.length_map]
  have hal : y.a.length = T.F.length := hsh.2.2.2.1
  have hK : T.F.length ≤ 20 := hsh.2.2.2.2.1
  have hO : okO y.O := hsh.1
  have hw : wr .i64 ((k : Int) + 1) = ((k + 1 : Nat) : Int) := by rw [wr_in ⟨by omega, by omega⟩]; omega
  have hat : k < T.F.length → y.fs.getD k true = false ∧ y.ls.getD k 0 = (rowAt T k).length ∧ 1 ≤ y.a.getD k 0 ∧ y.a.getD k 0 ≤ (rowAt T k).length ∧ wr .i64 (y.a.getD k 0 - 1) = y.a.getD k 0 - 1 ∧ (rowAt T k).getD (y.a.getD k 0 - 1).toNat 0 = y.w := by
    intro hk
    obtain ⟨_, r1, r2, r3, r4, r5⟩ := okShape_at hsh hk
    obtain ⟨c1, c2⟩ := hall k hk
    exact ⟨r1, r2, c1, r5, wr_in ⟨by omega, by omega⟩, c2⟩
  obtain ⟨n, O, t, x, a, ls, fs, w⟩ := y
  simp only at hls hal hO hat q1 q2 ⊢
  rcases hO with rfl | ⟨q, rfl⟩
  · refine takes_of_tree hE hW (f := 4) (.inr (by kernel_rfl)) (hp_below _) (ch_n T n t x a ls fs w (k : Int)) ?_
    simp only [Tree.holds, decide_true, Bool.and_self, Bool.and_true, Bool.true_and, true_and, toNat_nat, decide_eq_true_eq, decide_eq_false_iff_not, Bool.and_eq_true, Bool.not_eq_true', Bool.not_eq_false', hw]
    refine ⟨fun k1 => ?_, fun k1 => q2 (by omega)⟩
    have hk' : k < T.F.length := by omega
    obtain ⟨r1, r2, r3, r4, r5, r6⟩ := hat hk'
    rw [r5]
    refine ⟨by omega, by omega, fun hh => absurd hh (by omega), fun _ => ⟨by omega, by omega, fun hh => ?_, fun _ => ⟨by omega, by omega, by rw [r2]; omega, ?_, fun hh => ?_, fun _ => q1 hk'⟩⟩⟩
    · rw [r1] at hh; cases hh
    · show _ < (rowAt T k).length; omega
    · exact absurd (by rw [Nat.zero_add]; exact r6) hh
  · refine takes_of_tree hE hW (f := 4) (.inr (by kernel_rfl)) (hp_below _) (ch_s T n q t x a ls fs w (k : Int)) ?_
    simp only [Tree.holds, decide_true, Bool.and_self, Bool.and_true, Bool.true_and, true_and, toNat_nat, decide_eq_true_eq, decide_eq_false_iff_not, Bool.and_eq_true, Bool.not_eq_true', Bool.not_eq_false', hw]
    refine ⟨fun k1 => ?_, fun k1 => q2 (by omega)⟩
    have hk' : k < T.F.length := by omega
    obtain ⟨r1, r2, r3, r4, r5, r6⟩ := hat hk'
    rw [r5]
    refine ⟨by omega, by omega, fun hh => absurd hh (by omega), fun _ => ⟨by omega, by omega, fun hh => ?_, fun _ => ⟨by omega, by omega, by rw [r2]; omega, ?_, fun hh => ?_, fun _ => q1 hk'⟩⟩⟩
    · rw [r1] at hh; cases hh
    · show _ < (rowAt T k).length; omega
    · exact absurd (by rw [Nat.zero_add]; exact r6) hh

theorem ch_takes {T : Tc} (h : Ways T) (y : Md) (hy : (chD T).pre y = true) : Takes Try.prog (tabF T) ra base 0 (.loop (codeOf 4 (false :: pCh))) (mkT 251 ((chD T).ins y)) (hp 0 ((chD T).blks y)) fun z => PostL 251 y z (chD T).alts := by
  classical
  have hy' : okChk T y := by simpa [chD, okChkB] using hy
  refine takes_loop (fun m ts h' => ∃ k : Nat, k ≤ T.F.length ∧ m = T.F.length - k + 1 ∧ ts = mkT 251 (y.ins ++ [(13, .int .i64 y.w), (14, .int .i64 (k : Int))]) ∧ h' = hp 0 y.bs) (fun ts h' => by rintro ⟨i, _, h, _⟩; omega) (fun m ts h' => ?_) (j := T.F.length + 1) ⟨0, by omega, by omega, rfl, rfl⟩
  rintro ⟨k, k1, k2, rfl, rfl⟩
  exact ch_round h y hy' k1 (fun hk => ⟨k + 1, by omega, by omega, rfl, rfl⟩) (fun hk => ⟨(), trivial, rfl⟩)
end

end Go.Proofs.Ytbdjcekekhgnkaa
