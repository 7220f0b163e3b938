/- PROVED: the law FrameKnown returns true: the chapter's examples, a body of the greatest size, one that is too long, what is none; no condition. -/
import Derived.Test.YtbpcljkapkjheaaP02v
import Derived.Test.YtbpcljkapkjheaaT02v
import Derived.Test.YtbpcljkapkjheaaB02
import Derived.Test.YtbpcljkapkjheaaE05
set_option linter.unusedSimpArgs false
set_option linter.unusedVariables false
namespace Go.Proofs.Ytbpcljkapkjheaa
open Go.ChangeShapes Go.WideShapes Go.ChangeAt Go.RowKit Ab

section
variable {E : Nat → Nat → Seg} {ra : Nat → Nat → Nat × Nat} {base : Nat}
theorem long_takes (hE : Plain E) (x : Unit) (_ : longD.pre x = true) : Takes Try.prog E ra base 0 (codeOf 6 pL) (mkT 146 (longD.ins x)) (hp 0 (longD.blks x)) fun y => PostL 146 x y longD.alts := by
  refine takes_of_eval hE (W_ok sumNone_ok noL_ok) (f := 6) (.inr (by kernel_rfl)) (hp_below _) long_eval ?_
  refine ⟨_, ?_, rfl⟩
  show (strOfNums _).size = 1048576
  rw [size_nums, List.length_take, List.drop_zero, List.length_replicate]
  decide
theorem k2_takes (hE : Plain E) (x : Unit) (_ : k2D.pre x = true) : Takes Try.prog E ra base 0 (codeOf 6 pK2) (mkT 146 (k2D.ins x)) (hp 0 (k2D.blks x)) fun y => PostL 146 x y k2D.alts :=
  takes_of_eval hE (W_ok sumNone_ok noL_ok) (f := 6) (.inr (by kernel_rfl)) (hp_below _) k2_eval ⟨(), trivial, rfl⟩
theorem TK2_ok (hE : Plain E) : ToldsOK Try.prog E ra base 0 TK2 := sumT_ok noT_ok rfl (toldR_ok (c := codeOf 6 pK2) (by kernel_rfl) (k2_takes hE))
theorem k1_takes (hE : Plain E) (t : ByteArray) (h : k1D.pre t = true) : Takes Try.prog E ra base 0 (codeOf 6 pK1) (mkT 146 (k1D.ins t)) (hp 0 (k1D.blks t)) fun y => PostL 146 t y k1D.alts := by
  have hS := S3_ok (ra := ra) (base := base) hE
  have ht : t.size = 1048576 := of_decide_eq_true h
  have hl : longB t = false := decide_eq_false (by omega)
  have hx : longB (t ++ xT) = true := decide_eq_true (by rw [ByteArray.size_append]; have : xT.size = 1 := rfl; omega)
  have f1 : (if longB t = true then noTx else frameT t) = frameT t := if_neg (by rw [hl]; decide)
  have f2 : (if longB t = true then (4 : Int) else 0) = 0 := if_neg (by rw [hl]; decide)
  have f3 : (if longB (t ++ xT) = true then (4 : Int) else 0) = 4 := if_pos hx
  have hd : (bs (frameT t)).drop 0 = bs (frameT t) ++ [] := by rw [List.drop_zero, List.append_nil]
  obtain ⟨e1, e2, e3⟩ := nx_full hd (by omega) (Nat.zero_le _)
  have e1 : nxE (frameT t) 0 = 0 := e1
  have e2 : szN (frameT t) 0 = (t.size : Nat) := e2
  have e3 : cutB (frameT t) 4 (4 + szN (frameT t) 0) = t := by
    have e3 : cutB (frameT t) (0 + 4) (0 + 4 + szN (frameT t) 0) = t := e3
    rw [Int.zero_add] at e3
    exact e3
  have hc : ByteArray.extract (frameT t) (orNat none 0) (orNat (some 4) (frameT t).size) = hT := by
    refine bs_inj ?_
    simp only [orNat]
    rw [bs_ext, frame_bs, ht]
    rfl
  have c1 : smallT t = true := decide_eq_true (by omega)
  have c2 : smallT (t ++ xT) = true := decide_eq_true (by rw [ByteArray.size_append]; have : xT.size = 1 := rfl; omega)
  have hs := frame_size t
  have c3 : decide ((frameT t).size ≤ 1000000000000) = true := decide_eq_true (by omega)
  have c4 : decide (t.size + 1 ≤ 9223372036854775807) = true := decide_eq_true (by omega)
  have c5 : decide ((0 : Int) + (t.size : Nat) + 5 = 1048581) = true := decide_eq_true (by omega)
  have c6 : decide (((frameT t).size : Int) < 4) = false := decide_eq_false (by omega)
  have c7 : decide (4 ≤ ((frameT t).size : Int)) = true := decide_eq_true (by omega)
  have c8 : decide ((t.size : Int) = 1048576) = true := decide_eq_true (by omega)
  refine takes_of_treeQ hE (W_ok hS noL_ok) (TK2_ok hE) (f := 6) (.inr (by kernel_rfl)) (hp_below _) (k1_t E t) ?_
  rw [f1, f2, f3, e3, hc, e1, e2]
  simp only [TreeQ.holds, c1, c2, c3, c4, c5, c6, c7, c8, if_true, ite_true, beq_tx, decide_true, Bool.and_self, Bool.and_true, Bool.true_and, true_and, true_implies, Bool.true_eq_false, Bool.false_eq_true, false_implies, and_true, Bool.not_true, Bool.not_false]
  intro _
  exact ⟨(), trivial, rfl⟩
theorem TK1_ok (hE : Plain E) : ToldsOK Try.prog E ra base 0 TK1 :=
  sumT_ok (sumT_ok noT_ok rfl (toldR_ok (c := codeOf 6 pK1) (by kernel_rfl) (k1_takes hE))) rfl (toldR_ok (c := codeOf 6 pL) (by kernel_rfl) (long_takes hE))
theorem known_gives (hE : Plain E) : Gives Try.prog E ra base 0 6 [] (hp 0 []) fun v _ => v = .bool true := by
  have hS := S3_ok (ra := ra) (base := base) hE
  refine gives_of_treeQ hE (W_ok hS noL_ok) (TK1_ok hE) (hp_below _) (known_call E) ?_
  simp only [TreeQ.holds, decide_true, Bool.and_self, Bool.and_true, Bool.true_and, true_and, true_implies]
  intro t ht
  exact ⟨decide_eq_true ht, fun _ => ⟨_, rfl, rfl⟩⟩
end
theorem noE_plain : Plain noSeg := by
  intro t p j v h
  rw [noSeg_cell] at h; cases h

theorem law6 : lawB Try.prog Try.f6 = true := by kernel_rfl

theorem known_lifted (os : Os) (started : os.Started) (H : Type) (enc : TypeId × Value → H) :
    ReturnsInHanded {} Try.checked os 6 .any (Rows.frameKnownSpec.pre6 enc Try.prog Try.f6 Rows.frameKnownRow.domain false) (Rows.frameKnownSpec.post enc Try.prog Try.f6 false true false false) := by
  refine returnsInHanded_of_change (C := Try.checked) Try.own started (by kernel_rfl) Try.func6
    (ChangeSpec.witness6 (enc := enc) (C := Try.checked) false ⟨#[], #[], []⟩ 8 (by kernel_rfl) (by kernel_rfl) (by kernel_rfl) (by kernel_rfl)) ?_
  intro W₀ base args ds gs before hval hW _ _
  have hW' := hW
  obtain ⟨p, q, hA, _⟩ := hW
  rw [show (Try.f6).params.toList = [] from by rw [Try.params6]] at hA
  obtain ⟨hnil, rfl, _⟩ := trodAll_nil hA
  have hr : RelL noSeg noRa (fun _ => none) [] args.toList := by rw [hnil]; exact .nil
  exact law_end' Try.laidOut law6 rfl hW' rfl (WRel.start0 W₀) hr (known_gives noE_plain)

theorem known_holds : Rows.FrameKnownSaid :=
  OpenClaim.holds_of_wide 6 Try.f6 rfl rfl rfl rfl rfl rfl rfl ⟨rfl, rfl, rfl, rfl, rfl⟩ rfl rfl rfl rfl rfl (by kernel_rfl) Try.func6 (by kernel_rfl)
    (of_decide_eq_true (by kernel_rfl)) (by unfold Func.isWrapper; first | (rw [if_pos (by decide +kernel)]; kernel_rfl) | (rw [if_neg (by decide +kernel)]; exact ⟨rfl, rfl⟩))
    (fun os started H enc _ => known_lifted os started H enc)

#print axioms known_holds
end Go.Proofs.Ytbpcljkapkjheaa
