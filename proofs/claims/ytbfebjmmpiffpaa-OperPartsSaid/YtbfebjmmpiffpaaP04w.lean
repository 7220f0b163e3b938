/- oper: the examples. -/
import Derived.Test.YtbfebjmmpiffpaaD04
namespace Go.Proofs.Ytbfebjmmpiffpaa
open Ab

theorem works_true {E : Nat → Nat → Seg} : evalTrue (callB Try.prog E noS (W E noS noL) 13 []) = true := by kernel_rfl

end Go.Proofs.Ytbfebjmmpiffpaa
