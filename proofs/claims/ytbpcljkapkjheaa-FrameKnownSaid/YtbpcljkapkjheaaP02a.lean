/- frame: the chapter's examples hold. -/
import Derived.Test.YtbpcljkapkjheaaD02
namespace Go.Proofs.Ytbpcljkapkjheaa
open Ab
theorem works_true {E : Nat → Nat → Seg} : evalTrue (callB Try.prog E noS (W E noS noL) 9 []) = true := by kernel_rfl
end Go.Proofs.Ytbpcljkapkjheaa
