/- oper: OperChecks as a whole. -/
import Derived.Test.YtbfebjmmpiffpaaP04b
import Derived.Test.YtbfebjmmpiffpaaT04b
import Derived.Test.YtbfebjmmpiffpaaP04w
set_option linter.unusedSimpArgs false
namespace Go.Proofs.Ytbfebjmmpiffpaa
open Ab

section
variable {E : Nat → Nat → Seg} {ra : Nat → Nat → Nat × Nat} {base : Nat}

theorem noE_plain : Plain noSeg := by
  intro t p j v h
  rw [noSeg_cell] at h; cases h

theorem SM_ok (hE : Plain E) : SumsOK Try.prog E ra base SM := sumG_deal hE (SC_ok hE) ⟨_, Try.func21, by kernel_rfl⟩ fun x _ => may_g hE x
theorem rcheck_g (hE : Plain E) (x : Op4) : Gives Try.prog E ra base 0 10 [x.v] (hp 0 []) fun v h' => v = .int .i64 (checkE x) ∧ h' = hp 0 [] := by
  have hS := SM_ok (ra := ra) (base := base) hE
  obtain ⟨k, a, b, g⟩ := x
  refine (gives_of_tree hE (wE hE hS) hS (hp_below _) (rcheck E k a b g) ?_).2
  simp only [Tree.holds, decide_true, Bool.and_self, Bool.and_true, Bool.true_and, true_and]
  exact ⟨fun h => ⟨_, rfl, congrArg _ (e0 h), rfl⟩, fun h => ⟨_, rfl, congrArg _ (e13 (by rw [h]; decide)), rfl⟩⟩

theorem S1_ok (hE : Plain E) : SumsOK Try.prog E ra base S1 :=
  sumG_deal hE (sumG_deal hE (sumG_deal hE (sumG_deal hE sumNone_ok ⟨_, Try.func9, by kernel_rfl⟩ fun x _ => check_g hE x) ⟨_, Try.func10, by kernel_rfl⟩ fun x _ => rcheck_g hE x) ⟨_, Try.func11, by kernel_rfl⟩ fun x _ => class_g hE x) ⟨_, Try.func12, by kernel_rfl⟩ fun x _ => rclass_g hE x
theorem S2_ok (hE : Plain E) : SumsOK Try.prog E ra base S2 :=
  sumG_deal hE (sumG_deal hE (S1_ok hE) ⟨_, Try.func13, by kernel_rfl⟩ fun _ _ => (gives_of_eval hE (wE hE sumNone_ok) sumNone_ok works_true).2) ⟨_, Try.func8, by kernel_rfl⟩ fun x _ => drafted_g hE x

theorem checks_gives (hE : Plain E) (x : Op4) (d : Dr) : Gives Try.prog E ra base 0 3 [x.v, d.v] (hp 0 []) fun v _ => v = .bool true := by
  have hS := S2_ok (ra := ra) (base := base) hE
  obtain ⟨k, a, b, g⟩ := x
  obtain ⟨w, c, d, e, odd⟩ := d
  refine gives_of_treeQ hE (wE hE hS) noT_ok (hp_below _) (checks_call E k a b g w c d e odd) ?_
  simp only [TreeQ.holds, decide_true, Bool.and_self, Bool.and_true, Bool.true_and, true_and, Bool.not_true]
  exact ⟨_, rfl, rfl⟩
end
end Go.Proofs.Ytbfebjmmpiffpaa
