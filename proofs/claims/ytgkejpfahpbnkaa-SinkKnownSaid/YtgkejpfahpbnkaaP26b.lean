/- sink: SinkKnown, run. -/
import Derived.Test.YtgkejpfahpbnkaaP26a
namespace Go.Proofs.Ytgkejpfahpbnkaa
open Ab
def S1 : Sums := sumF 5 (callG trueD fun _ _ => some ()) noS
theorem S1_ok {E : Nat → Nat → Seg} {ra : Nat → Nat → Nat × Nat} {base : Nat} (hE : Plain E) : SumsOK Try.prog E ra base S1 :=
  sumG_deal hE sumNone_ok ⟨_, Try.func5, by kernel_rfl⟩ fun _ _ => (gives_of_eval hE (W_ok sumNone_ok noL_ok) sumNone_ok works_true).2
theorem known_true {E : Nat → Nat → Seg} : evalTrue (callB Try.prog E S1 (W E S1 noL) 4 []) = true := by kernel_rfl
end Go.Proofs.Ytgkejpfahpbnkaa
