/- send: the chapter's examples, run. -/
import Derived.Test.YtoahbijmemgghaaP20a
namespace Go.Proofs.Ytoahbijmemgghaa
open Ab
theorem works_true {E : Nat → Nat → Seg} : evalTrue (callB Try.prog E noS (W E noS noL) 20 []) = true := by kernel_rfl
theorem S2_ok {E : Nat → Nat → Seg} {ra : Nat → Nat → Nat × Nat} {base : Nat} (hE : Plain E) : SumsOK Try.prog E ra base S2 :=
  sumG_deal hE (S1_ok hE) ⟨_, Try.func20, by kernel_rfl⟩ fun _ _ => (gives_of_eval hE (W_ok sumNone_ok noL_ok) sumNone_ok works_true).2
end Go.Proofs.Ytoahbijmemgghaa
