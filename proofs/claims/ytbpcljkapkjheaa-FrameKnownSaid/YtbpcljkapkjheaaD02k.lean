/- frame: the sums with both Nexts. -/
import Derived.Test.YtbpcljkapkjheaaP02m
import Derived.Test.YtbpcljkapkjheaaP02c
namespace Go.Proofs.Ytbpcljkapkjheaa
open Ab
def S3 : Sums := sumF 16 (callG nextD nxI) (sumF 14 (callG nextD nxI) S1)
theorem S3_ok {E : Nat → Nat → Seg} {ra : Nat → Nat → Nat × Nat} {base : Nat} (hE : Plain E) : SumsOK Try.prog E ra base S3 :=
  sumG_deal hE (sumG_deal hE (S1_ok hE) ⟨_, Try.func14, by kernel_rfl⟩ fun x hx => next_gives hE x hx) ⟨_, Try.func16, by kernel_rfl⟩ fun x hx => nextR_gives hE x hx
end Go.Proofs.Ytbpcljkapkjheaa
