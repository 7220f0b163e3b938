/- frame: FrameBack: the whole. -/
import Derived.Test.YtbpcljkapkjheaaP02t
set_option linter.unusedSimpArgs false
set_option linter.unusedVariables false
namespace Go.Proofs.Ytbpcljkapkjheaa
open Ab

section
variable {E : Nat → Nat → Seg} {ra : Nat → Nat → Nat × Nat} {base : Nat}

theorem r1_takes (hE : Plain E) (x : B5) (hx : b5D.pre x = true) : Takes Try.prog E ra base 0 (codeOf 5 pR1) (mkT 193 (b5D.ins x)) (hp 0 (b5D.blks x)) fun y => PostL 193 x y b5D.alts := by
  have hS := S5_ok (ra := ra) (base := base) hE
  have hk : okB x = true := hx
  have o := okB_iff.1 hx
  obtain ⟨q, s, r, f, M, pl⟩ := x
  obtain ⟨o1, o2, o3, o4, o5, o6, o7⟩ := o
  simp only at o1 o2 o3 o4 o5 o6 o7
  have hz := cat_size o3 o4
  have hall : allT r = ⟨M, (r.size : Nat), 0⟩ := by rw [o1]; exact all_of_cat fun t ht => Nat.le_trans (o4 t ht) (by omega)
  have hn : noneA r = M.isEmpty := by rw [noneA, hall]
  have c3 : lowT r = true := decide_eq_true (by rw [o1]; omega)
  cases f with
  | false =>
    obtain rfl : M = [] := List.isEmpty_iff.1 (by cases h : M.isEmpty with
      | true => rfl
      | false => rw [h] at o5; cases o5)
    subst o2
    refine takes_of_treeQ hE (W_ok hS noL_ok) (TB1_ok hE) (f := 5) (.inr (by kernel_rfl)) (hp_below _) (r1_n E q s r) ?_
    have hn : noneA r = true := hn
    have hk : okB ⟨q, s, r, false, [], []⟩ = true := hk
    rw [hall]
    simp only [TreeQ.holds, hn, c3, hk, decide_true, Bool.and_self, Bool.and_true, Bool.true_and, true_and, true_implies, Bool.true_eq_false, Bool.false_eq_true, false_implies, and_true, Bool.not_true, Bool.not_false]
    intro _
    exact yes_5
  | true =>
    have hM : 0 < M.length := by
      cases M with
      | nil => cases o5
      | cons => simp
    have hn : noneA r = false := by rw [hn]; cases M with
      | nil => cases hM
      | cons => rfl
    refine takes_of_treeQ hE (W_ok hS noL_ok) (TB1_ok hE) (f := 5) (.inr (by kernel_rfl)) (hp_below _) (r1_g E q s r M pl) ?_
    rw [hall]
    have d1 : Tq.ok (Tq.gg M M M.length none) = true := by
      simp only [Tq.ok, Bool.and_eq_true, decide_eq_true_eq]; exact ⟨hM, by omega, by omega, by omega⟩
    have d2 : Tq.says (Tq.gg M M M.length none) = true := by
      show alikeL M (M.take M.length) = true
      rw [List.take_length]; exact alike_self _
    simp only [TreeQ.holds, hn, c3, hk, d1, d2, decide_true, Bool.and_self, Bool.and_true, Bool.true_and, true_and, true_implies, Bool.true_eq_false, Bool.false_eq_true, false_implies, and_true, Bool.not_true, Bool.not_false]
    intro _
    exact yes_5
theorem pl_emp {M : List ByteArray} (h : M = []) : plc 0 M = [] := by rw [h]; rfl
end
section
variable {ra : Nat → Nat → Nat × Nat} {base : Nat}
theorem TB0_ok (L : List ByteArray) : ToldsOK Try.prog (tabS L) ra base 0 (TB0 L) :=
  sumT_ok (sumT_ok noT_ok rfl (toldR_ok (c := codeOf 5 pR1) (by kernel_rfl) (r1_takes (tabS_plain L)))) rfl (toldR_ok (c := .loop (codeOf 5 (false :: pB1))) (by kernel_rfl) (b1_takes L))
theorem ownL_ok {L : List ByteArray} {q : Int} (hq : 0 ≤ q ∧ q < 65536) (s : ByteArray) : okB ⟨q, s, catT (ownL L), !(ownL L).isEmpty, ownL L, plc 0 (ownL L)⟩ = true := by
  refine okB_iff.2 ⟨rfl, rfl, ?_, ?_, rfl, hq.1, hq.2⟩
  · simp only [ownL, List.length_map, List.length_take]; omega
  · intro t ht
    simp only [ownL, List.mem_map] at ht
    obtain ⟨u, _, rfl⟩ := ht
    exact cut5_le u
theorem fin_n {L : List ByteArray} {q : Int} (hq : 0 ≤ q ∧ q < 65536) (s : ByteArray) (y : Bk) (hy : b1N L y) : okB ⟨q, s, y.r, false, [], []⟩ = true := by
  obtain ⟨rfl, h⟩ := hy
  have := ownL_ok (L := L) hq s
  have h : ownL L = [] := h
  rw [h] at this
  show okB ⟨q, s, catT (ownL L), false, [], []⟩ = true
  rw [h]; exact this
theorem fin_g {L : List ByteArray} {q : Int} (hq : 0 ≤ q ∧ q < 65536) (s : ByteArray) (y : Bk) (hy : b1G L y) : okB ⟨q, s, y.r, true, y.own, y.pl⟩ = true := by
  obtain ⟨rfl, h⟩ := hy
  have := ownL_ok (L := L) hq s
  have h : 0 < (ownL L).length := h
  have h2 : (ownL L).isEmpty = false := by
    cases hq : ownL L with
    | nil => rw [hq] at h; cases h
    | cons => rfl
  rw [h2] at this
  exact this
theorem back_gives {L : List ByteArray} {V : AVal} (hV : okS L V = true) (s : ByteArray) {q : Int} (hq : 0 ≤ q ∧ q < 65536) :
    Gives Try.prog (tabS L) ra base 0 5 [V, .int .u16 q, .str s] (hp 0 []) fun v _ => v = .bool true := by
  have hE := tabS_plain L
  have hS := S5_ok (ra := ra) (base := base) hE
  have fin : ∃ v, ((AExit.ret, mkT 1 [(0, AVal.bool true)], ([] : Log)) : State).2.1 = [v] ∧ v = .bool true := ⟨_, rfl, rfl⟩
  rcases okS_cases hV with ⟨rfl, rfl⟩ | rfl
  · refine gives_of_treeQ hE (W_ok hS noL_ok) (TB0_ok []) (hp_below _) (back_call0 [] q s) ?_
    simp only [TreeQ.holds, hV, decide_true, Bool.and_self, Bool.and_true, Bool.true_and, true_and, true_implies]
    exact ⟨fun y hy => ⟨fin_n hq s y hy, fun _ => fin⟩, fun y hy => ⟨fin_g hq s y hy, fun _ => fin⟩⟩
  · refine gives_of_treeQ hE (W_ok hS noL_ok) (TB0_ok L) (hp_below _) (back_call L L.length q s) ?_
    simp only [TreeQ.holds, hV, decide_true, Bool.and_self, Bool.and_true, Bool.true_and, true_and, true_implies]
    exact ⟨fun y hy => ⟨fin_n hq s y hy, fun _ => fin⟩, fun y hy => ⟨fin_g hq s y hy, fun _ => fin⟩⟩
end
end Go.Proofs.Ytbpcljkapkjheaa
