/- align: AlignCuts: what is told behind the aligner's making. -/
import Derived.Test.YtbdjcekekhgnkaaP24o
import Derived.Test.YtbdjcekekhgnkaaE05
namespace Go.Proofs.Ytbdjcekekhgnkaa
open Ab

structure He where
  e : Bool
  n : Nat
  B : AVal
  O : AVal
  x : Al
def He.m (y : He) : Nat := y.x.m.toNat
def ownS (B O : AVal) : List (Nat × AVal) := [(0, .slice (.own 0 0 0 1) 1 (some 1)), (1, B), (2, O), (7, .ptr (.own 1 0 0 0)), (8, .nils)]
def okHe (T : Tc) (y : He) : Prop := (y.e = false → y.n ≤ T.ns.length) ∧ 1 ≤ y.n ∧ y.n ≤ 4 ∧ (y.e = true → y.n = 1) ∧ y.m ≤ 3 ∧ y.m ≤ T.ms.length ∧ okM y.B y.m ∧ okO y.O ∧ (∀ q, y.O = .slice (.ro 4 0 0 0) q none → q ≤ T.o.length) ∧ y.x = newAl ⟨y.n, y.m, 0⟩
open Classical in
noncomputable def okHeB (T : Tc) (y : He) : Bool := decide (okHe T y)
noncomputable def heD (T : Tc) : RDeal He where
  ins y := match y.e with
    | false => preS y.n y.B y.O
    | true => ownS y.B y.O
  blks y := match y.e with
    | false => [y.x.blk]
    | true => [.segs [⟨1, 1, [.val [.nils]]⟩], y.x.blk]
  pre := okHeB T
  alts := [⟨Unit, .ret, fun _ _ => True, fun _ _ => [(6, .bool true)], fun _ _ => []⟩]
def heO (us : List AVal) (Bs : List Blk) : Option He := match us, Bs with
  | [.slice _ n _, B, O, _, _], [A] => match alOf A with
    | some x => some ⟨false, n, B, O, x⟩
    | none => none
  | [.slice _ n _, B, O, _, _], [_, A] => match alOf A with
    | some x => some ⟨true, n, B, O, x⟩
    | none => none
  | _, _ => none
noncomputable def THe (T : Tc) : Tolds := sumT 4 p7 (toldR 251 (heD T) [0, 1, 2, 7, 8] heO) noT

end Go.Proofs.Ytbdjcekekhgnkaa
