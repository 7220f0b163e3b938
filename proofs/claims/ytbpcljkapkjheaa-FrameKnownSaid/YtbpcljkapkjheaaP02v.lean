/- frame: FrameKnown: the examples, run. -/
import Derived.Test.YtbpcljkapkjheaaD02v
namespace Go.Proofs.Ytbpcljkapkjheaa
open Ab
theorem k2_eval {E : Nat → Nat → Seg} : evalS 0 [] 1 (W E noS noL 6 pK2 false (codeOf 6 pK2) (mkT 146 [])) ⟨[], 0, [], []⟩ = some (.ret, mkT 146 [(0, .bool true)], []) := by kernel_rfl
end Go.Proofs.Ytbpcljkapkjheaa
