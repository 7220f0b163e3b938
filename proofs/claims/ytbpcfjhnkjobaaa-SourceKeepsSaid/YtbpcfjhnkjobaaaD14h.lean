/- source: SourceKeeps: the rest of a round, told. -/
import Derived.Test.YtbpcfjhnkjobaaaD14g
namespace Go.Proofs.Ytbpcfjhnkjobaaa
open Ab

def goesOn (k : Int) : Prop := k ≠ 4
def kbE : RDeal Kb where
  ins := Kb.ins
  blks := Kb.blks
  pre := lgl
  alts := [⟨Unit, .ret, fun _ _ => True, fun _ _ => [(4, .bool true)], fun _ _ => []⟩, ⟨Unit, .normal, fun x _ => goesOn x.k, fun x _ => Kp.at ⟨⟨true, x.it, x.m, x.y⟩, x.l⟩ x.y.f x.i, fun x _ => One.blks ⟨true, x.it, x.m, x.y⟩⟩]
def TKE : Tolds := sumT 4 pB (toldR 235 kbE [1, 5, 6, 7, 8, 9, 10] kbO) noT

end Go.Proofs.Ytbpcfjhnkjobaaa
