/- sink: the chapter's examples, run. -/
import Derived.Test.YtgkejpfahpbnkaaH26
import Derived.Test.YtgkejpfahpbnkaaE05
namespace Go.Proofs.Ytgkejpfahpbnkaa
open Ab
theorem works_true {E : Nat → Nat → Seg} : evalTrue (callB Try.prog E noS (W E noS noL) 5 []) = true := by kernel_rfl
end Go.Proofs.Ytgkejpfahpbnkaa
