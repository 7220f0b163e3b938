/- frame: texts keeps its contract; the sums with All and texts. -/
import Derived.Test.YtbpcljkapkjheaaP02o
set_option linter.unusedSimpArgs false
set_option linter.unusedVariables false
namespace Go.Proofs.Ytbpcljkapkjheaa
open Ab

theorem alike_self : ∀ L : List ByteArray, alikeL L L = true
  | [] => rfl
  | a :: l => by rw [alikeL, alike_self l, beq_self_eq_true]; rfl
theorem alike_len : ∀ {A B : List ByteArray}, alikeL A B = true → A.length = B.length
  | [], [], _ => rfl
  | _ :: _, _ :: _, h => by
    rw [alikeL, Bool.and_eq_true] at h
    rw [List.length_cons, List.length_cons, alike_len h.2]
  | [], _ :: _, h => by cases h
  | _ :: _, [], h => by cases h
theorem alike_drop {A B : List ByteArray} {i : Nat} (ha : i < A.length) (hb : i < B.length) : alikeL (A.drop i) (B.drop i) = ((ByteArray.toList (A.getD i noTx) == ByteArray.toList (B.getD i noTx)) && alikeL (A.drop (i + 1)) (B.drop (i + 1))) := by
  have e1 : A.getD i noTx = A[i] := by rw [List.getD_eq_getElem?_getD, List.getElem?_eq_getElem ha]; rfl
  have e2 : B.getD i noTx = B[i] := by rw [List.getD_eq_getElem?_getD, List.getElem?_eq_getElem hb]; rfl
  rw [List.drop_eq_getElem_cons ha, List.drop_eq_getElem_cons hb, e1, e2, alikeL]
theorem getD_take {B : List ByteArray} {m i : Nat} (h : i < m) : (B.take m).getD i noTx = B.getD i noTx := by
  rw [List.getD_eq_getElem?_getD, List.getD_eq_getElem?_getD, List.getElem?_take_of_lt h]

def AtX (x : T2) (j : Nat) (ts : Tmps) (h : Log) : Prop := ∃ i : Nat, i ≤ x.m ∧ j = x.m - i + 1 ∧ alikeL x.A (x.B.take x.m) = alikeL (x.A.drop i) ((x.B.take x.m).drop i) ∧ ts = mkT 26 (x.at (i : Nat)) ∧ h = hp 0 [txB x.A, txB x.B]
theorem at_x {x : T2} {j i : Nat} (h1 : i ≤ x.m) (h2 : j = x.m - i + 1) (h3 : alikeL x.A (x.B.take x.m) = alikeL (x.A.drop i) ((x.B.take x.m).drop i)) : AtX x j (mkT 26 (x.at (i : Nat))) (hp 0 [txB x.A, txB x.B]) := ⟨i, h1, h2, h3, rfl, rfl⟩

section
variable {E : Nat → Nat → Seg} {ra : Nat → Nat → Nat × Nat} {base : Nat}

theorem tx_takes (hE : Plain E) (x : T2) (hx : t2D.pre x = true) : Takes Try.prog E ra base 2 (.loop (codeOf 13 (false :: pX))) (mkT 26 (t2D.ins x)) (hp 0 (t2D.blks x)) fun y => PostL 26 x y t2D.alts := by
  simp only [t2D, Bool.and_eq_true, decide_eq_true_eq] at hx
  obtain ⟨p1, p2, p3⟩ := hx
  refine takes_loop (AtX x) (fun ts h => by rintro ⟨i, _, h, _⟩; omega) (fun j ts h hI => ?_) (j := x.m + 1) (at_x (i := 0) (Nat.zero_le _) (by omega) rfl)
  obtain ⟨i, k1, k2, k3, rfl, rfl⟩ := hI
  refine takes_of_tree hE (W_ok sumNone_ok noL_ok) (f := 13) (.inr (by kernel_rfl)) (hp_below _) (tx_round E x.A x.B x.m x.c i) ?_
  simp only [Tree.holds]
  refine ⟨fun hl => ?_, fun hl => ?_⟩
  · have hl' := of_decide_eq_true hl
    have hi : i < x.m := by omega
    have c1 : decide (0 ≤ (i : Int)) = true := decide_eq_true (by omega)
    have c2 : decide (0 + Int.toNat (i : Int) < x.A.length) = true := decide_eq_true (by omega)
    have c3 : decide ((i : Int) < (x.m : Nat)) = true := decide_eq_true (by omega)
    have c4 : decide (0 + Int.toNat (i : Int) < x.B.length) = true := decide_eq_true (by omega)
    have e3 : wr .i64 ((i : Int) + 1) = ((i + 1 : Nat) : Int) := by rw [wr_in ⟨by omega, by omega⟩]; rfl
    have e4 : 0 + Int.toNat (i : Int) = i := by omega
    have hs := alike_drop (A := x.A) (B := x.B.take x.m) (i := i) (by omega) (by rw [List.length_take]; omega)
    rw [getD_take hi] at hs
    simp only [hl, c1, c2, c3, c4, e3, Bool.and_self, true_and]
    rw [e4]
    refine ⟨fun hh => ?_, fun hh => ?_⟩
    · have hh : (ByteArray.toList (x.A.getD i noTx) == ByteArray.toList (x.B.getD i noTx)) = false := by
        cases hv : (ByteArray.toList (x.A.getD i noTx) == ByteArray.toList (x.B.getD i noTx)) with
        | false => rfl
        | true => rw [hv] at hh; cases hh
      rw [hh, Bool.false_and] at hs
      exact .inr ⟨(), k3.trans hs, rfl⟩
    · have hh : (ByteArray.toList (x.A.getD i noTx) == ByteArray.toList (x.B.getD i noTx)) = true := by
        cases hv : (ByteArray.toList (x.A.getD i noTx) == ByteArray.toList (x.B.getD i noTx)) with
        | true => rfl
        | false => rw [hv] at hh; cases hh
      rw [hh, Bool.true_and] at hs
      exact at_x (x := x) (j := j) (i := i + 1) hi (by omega) (k3.trans hs)
  · have hl' := of_decide_eq_false hl
    have hi : i = x.m := by omega
    refine .inl ⟨(), ?_, rfl⟩
    show alikeL x.A (x.B.take x.m) = true
    rw [k3, hi, List.drop_of_length_le (by omega), List.drop_of_length_le (by rw [List.length_take]; omega)]
    rfl
theorem TX_ok (hE : Plain E) : ToldsOK Try.prog E ra base 2 TX := sumT_ok noT_ok rfl (toldR_ok (c := .loop (codeOf 13 (false :: pX))) (by kernel_rfl) (tx_takes hE))

theorem cap_self (c : Option Nat) : sameCap c c = true := by cases c <;> simp [sameCap]
theorem tx_gives (hE : Plain E) : GivesD Try.prog E ra base 13 (txD Tq.isNN) ∧ GivesD Try.prog E ra base 13 (txD Tq.isNG) ∧ GivesD Try.prog E ra base 13 (txD Tq.isGN) ∧ GivesD Try.prog E ra base 13 (txD Tq.isGG) := by
  have hR := W_ok (E := E) (ra := ra) (base := base) sumNone_ok noL_ok
  refine ⟨fun x h => ?_, fun x h => ?_, fun x h => ?_, fun x h => ?_⟩
  all_goals
    simp only [txD, Bool.and_eq_true] at h
    obtain ⟨h1, h2⟩ := h
    cases x
    all_goals first | (cases h2; done) | skip
  · refine gives_of_treeQ hE hR noT_ok (hp_below _) (tx_nn E) ?_
    exact ⟨_, rfl, rfl, rfl⟩
  · rename_i B m c
    refine gives_of_treeQ hE hR noT_ok (hp_below _) (tx_ng E B m c) ?_
    simp only [TreeQ.holds, Bool.not_eq_true', Bool.not_eq_false', decide_eq_true_eq, decide_eq_false_iff_not]
    refine ⟨fun hh => ⟨_, rfl, ?_, rfl⟩, fun hh => ⟨_, rfl, ?_, rfl⟩⟩
    · show AVal.bool false = .bool (decide (m = 0)); rw [decide_eq_false (by omega)]
    · show AVal.bool true = .bool (decide (m = 0)); rw [decide_eq_true (by omega)]
  · rename_i A
    refine gives_of_treeQ hE hR noT_ok (hp_below _) (tx_gn E A) ?_
    simp only [Tq.ok, Bool.and_eq_true, decide_eq_true_eq] at h1
    simp only [TreeQ.holds, Bool.not_eq_true', Bool.not_eq_false', decide_eq_true_eq, decide_eq_false_iff_not]
    exact ⟨by omega, _, rfl, rfl, rfl⟩
  · rename_i A B m c
    refine gives_of_treeQ hE hR (TX_ok hE) (hp_below _) (tx_gg E A B m c) ?_
    simp only [Tq.ok, Bool.and_eq_true, decide_eq_true_eq] at h1
    obtain ⟨o1, o2, o3, o4⟩ := h1
    simp only [TreeQ.holds, Bool.not_eq_true', Bool.not_eq_false', decide_eq_true_eq, decide_eq_false_iff_not, cap_self, decide_true, Bool.and_self, Bool.and_true, true_and, Bool.and_eq_true]
    refine ⟨fun hh => ⟨_, rfl, ?_, rfl⟩, fun hh => ⟨⟨by omega, by omega, by omega⟩, fun _ hy => ⟨_, rfl, ?_, rfl⟩, fun _ hy => ⟨_, rfl, ?_, rfl⟩⟩⟩
    · show AVal.bool false = .bool (alikeL A (B.take m))
      cases hv : alikeL A (B.take m) with
      | false => rfl
      | true => have := alike_len hv; rw [List.length_take] at this; omega
    · show AVal.bool true = .bool (alikeL A (B.take m))
      rw [show alikeL A (B.take m) = true from hy]
    · show AVal.bool false = .bool (alikeL A (B.take m))
      rw [show alikeL A (B.take m) = false from hy]
theorem S5_ok (hE : Plain E) : SumsOK Try.prog E ra base S5 := by
  obtain ⟨g1, g2, g3, g4⟩ := tx_gives (E := E) (ra := ra) (base := base) hE
  refine sumNG_deal hE (S4_ok hE) ⟨_, Try.func13, by kernel_rfl⟩ (fun q hq => ?_) g4
  simp only [List.mem_cons, List.not_mem_nil, or_false] at hq
  rcases hq with rfl | rfl | rfl
  · exact g1
  · exact g2
  · exact g3
end
end Go.Proofs.Ytbpcljkapkjheaa
