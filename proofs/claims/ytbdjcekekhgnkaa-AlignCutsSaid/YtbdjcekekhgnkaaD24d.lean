/- align: AlignCuts: the tables; a way's row; contracts. -/
import Derived.Test.YtbdjcekekhgnkaaP24b
import Derived.Test.YtbdjcekekhgnkaaE05
import Derived.Test.YtbdjcekekhgnkaaE05
namespace Go.Proofs.Ytbdjcekekhgnkaa
open Ab

/-- the ways in, the ways beside, what is on them, the orders, the rows that are built -/
structure Tc where
  ns : List Nat
  bs : List Bool
  R : Nat → List Int
  ms : List Nat
  ds : List Bool
  Q : Nat → List Int
  o : List Int
  F : List (List Int)

def tabF (T : Tc) : Nat → Nat → Seg := fun t p => match t with
  | 0 => ⟨T.ns.length, 1, [.subs 1 T.ns T.bs]⟩
  | 1 => ⟨(T.R p).length, 1, [.int .u8 (T.R p)]⟩
  | 2 => ⟨T.ms.length, 1, [.subs 3 T.ms T.ds]⟩
  | 3 => ⟨(T.Q p).length, 1, [.int .u8 (T.Q p)]⟩
  | 5 => ⟨(T.F.getD p []).length, 1, [.int .i64 (T.F.getD p [])]⟩
  | _ => ⟨T.o.length, 1, [.int .u8 T.o]⟩

def elI (xs : List Int) : Blk := .segs [⟨xs.length, 1, [.int .i64 xs]⟩]

/-- what stands ahead of barrier n -/
def thing (xs : List Int) (n : Nat) : Int := if n ≤ xs.length then Int.tmod (xs.getD (n - 1) 0) 5 else 1
def rowTo (xs : List Int) : Nat → List Int
  | 0 => []
  | n + 1 => rowTo xs n ++ List.replicate (thing xs (n + 1)).toNat (-1) ++ [((n + 1 : Nat) : Int)]
def rowL (xs : List Int) : List Int := rowTo xs 5

inductive Rw
  | z
  | a (p n : Nat)
  | b (p n : Nat)
def Rw.v : Rw → AVal
  | .z => .nils
  | .a p n => .slice (.ro 1 p 0 0) n none
  | .b p n => .slice (.ro 3 p 0 0) n none
def Rw.xs (T : Tc) : Rw → List Int
  | .z => []
  | .a p _ => T.R p
  | .b p _ => T.Q p
def Rw.pre (T : Tc) : Rw → Bool
  | .z => true
  | .a p n => decide (n = (T.R p).length)
  | .b p n => decide (n = (T.Q p).length)
def rwOf : AVal → Option Rw
  | .nils => some .z
  | .slice (.ro 1 p _ _) n _ => some (.a p n)
  | .slice (.ro 3 p _ _) n _ => some (.b p n)
  | _ => none
def rowD (T : Tc) : CDeal Rw := ⟨fun y => [y.v], fun _ => [], fun y => y.pre T, fun y => .slice (.own 0 0 0 1) (rowL (y.xs T)).length none, fun y => [elI (rowL (y.xs T))]⟩
def rowO (us : List AVal) (_ : List Blk) : Option Rw := match us with
  | [V] => rwOf V
  | _ => none

/-- the inner loop: things -/
structure Rs where
  V : AVal
  e : Bool
  xs : List Int
  k : Int
  s : Int
/-- what may be read -/
def rwB : AVal → Bool
  | .nils => true
  | .slice (.ro 1 _ 0 0) _ none => true
  | .slice (.ro 3 _ 0 0) _ none => true
  | _ => false
def thZ (e : Bool) (s : Int) : Bool := e && decide (s = 0)
def thD : RDeal Rs where
  ins y := match y.e with
    | true => [(0, y.V), (3, .nils), (4, .int .i64 y.k), (5, .int .i64 y.s), (6, .int .i64 0)]
    | false => [(0, y.V), (3, .slice (.own 0 0 0 1) y.xs.length none), (4, .int .i64 y.k), (5, .int .i64 y.s), (6, .int .i64 0)]
  blks y := match y.e with
    | true => []
    | false => [elI y.xs]
  pre y := rwB y.V && (match y.e with
    | true => y.xs.isEmpty
    | false => true) && (decide (0 ≤ y.s) && (decide (y.s ≤ 100) && decide (y.xs.length ≤ 1000)))
  alts := [⟨List Int, .exit 2, fun y l => l = y.xs ++ List.replicate y.s.toNat (-1), fun y l => [(0, y.V), (3, .slice (.own 0 0 0 1) l.length none), (4, .int .i64 y.k)], fun _ l => [elI l]⟩,
    ⟨Unit, .exit 2, fun y _ => thZ y.e y.s = true, fun y _ => [(0, y.V), (3, .nils), (4, .int .i64 y.k)], fun _ _ => []⟩]
def thO (us : List AVal) (Bs : List Blk) : Option Rs := match us, Bs with
  | [V, .nils, .int _ k, .int _ s, _], [] => some ⟨V, true, [], k, s⟩
  | [V, .slice _ _ _, .int _ k, .int _ s, _], [.segs [⟨_, _, [.int _ xs]⟩]] => some ⟨V, false, xs, k, s⟩
  | _, _ => none
def pTh : List Bool := [false, true, false, true, true, false, false, true, false, false, true, false, true, true]
def TTh : Tolds := sumT 16 pTh (toldR 35 thD [0, 3, 4, 5, 6] thO) noT

/-- the outer one: barriers -/
def baD (T : Tc) : RDeal Rw where
  ins y := [(0, y.v), (3, .nils), (4, .int .i64 1)]
  blks _ := []
  pre y := y.pre T
  alts := [⟨Unit, .exit 0, fun _ _ => True, fun y _ => [(3, .slice (.own 0 0 0 1) (rowL (y.xs T)).length none)], fun y _ => [elI (rowL (y.xs T))]⟩]
def baO (us : List AVal) (_ : List Blk) : Option Rw := match us with
  | [V, _, _] => rwOf V
  | _ => none
def pBa : List Bool := [false, true, false, true, true]
def TBa (T : Tc) : Tolds := sumT 16 pBa (toldR 35 (baD T) [0, 3, 4] baO) noT

end Go.Proofs.Ytbdjcekekhgnkaa
