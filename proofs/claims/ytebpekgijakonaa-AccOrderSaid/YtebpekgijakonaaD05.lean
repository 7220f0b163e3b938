/- acc: the numbers, the tables, and what loops give. -/
import Derived.Test.YtebpekgijakonaaRows
import Derived.Test.YtebpekgijakonaaE24
namespace Go.Proofs.Ytebpekgijakonaa
open Go.ChangeShapes Go.WideShapes Go.ChangeAt Go.RowKit Ab

theorem Try.own : ownKnob Try.prog.godebug = none := by kernel_rfl
theorem Try.laidOut : laidOutB Try.prog = true := by kernel_rfl
theorem Try.names : NamesOK Try.prog := names_ok (by kernel_rfl)
theorem Try.mixed : Try.prog.follows .mixedOrders = true := by kernel_rfl

theorem ext {E : Nat → Nat → Seg} {ra : Nat → Nat → Nat × Nat} : ExtsOK Try.prog E ra (extAdd 18) :=
  extAdd_ok Try.func18 (by kernel_rfl) (by kernel_rfl) (by kernel_rfl) (by kernel_rfl)

noncomputable def W (E : Nat → Nat → Seg) (S : Sums) (L : Loops) : Walk := exec Try.prog E S (extAdd 18) L 400
noncomputable def codeOf (f : FuncId) (p : List Bool) : Code := match codeAt Try.prog f p with
  | some c => c
  | none => .skip
def noS : Sums := fun _ => none

theorem W_ok {E : Nat → Nat → Seg} {ra : Nat → Nat → Nat × Nat} {base : Nat} {S : Sums} {L : Loops} (hS : SumsOK Try.prog E ra base S) (hL : LoopsOK Try.prog E ra base L) : ExecOK Try.prog E ra base (W E S L) :=
  exec_sound hL hS ext Try.names Try.mixed 400

/-- an aggregate's numbers -/
structure Ac where
  n : Int
  h : Int
  l : Int
  a : Int
  b : Int

def Ac.v (x : Ac) : AVal := .agg [.int .i64 x.n, .int .i64 x.h, .int .u64 x.l, .int .i64 x.a, .int .i64 x.b]
def Ac.blk (x : Ac) : Blk := .segs [⟨1, 1, [.int .i64 [x.n]]⟩, ⟨1, 1, [.int .i64 [x.h]]⟩, ⟨1, 1, [.int .u64 [x.l]]⟩, ⟨1, 1, [.int .i64 [x.a]]⟩, ⟨1, 1, [.int .i64 [x.b]]⟩]

def one (v : Int) : Ac := ⟨1, v.fdiv 9223372036854775808, wr .u64 v, v, v⟩

def merge (x y : Ac) : Ac :=
  if x.n = 0 then y else if y.n = 0 then x else
    ⟨wr .i64 (x.n + y.n), wr .i64 (wr .i64 (x.h + y.h) + wr .i64 ((x.l + y.l + 0) / 18446744073709551616)), (x.l + y.l + 0) % 18446744073709551616, if y.a < x.a then y.a else x.a, if x.b < y.b then y.b else x.b⟩

def zero : Ac := ⟨0, 0, 0, 0, 0⟩

/-- the aggregate of the first ones -/
def upto (xs : List Int) (i : Nat) : Ac := (xs.take i).foldl (fun a v => merge a (one v)) zero

/-- a list of numbers, to be read -/
def tabI (xs : List Int) : Nat → Nat → Seg := fun _ _ => ⟨xs.length, 1, [.int .i64 xs]⟩

end Go.Proofs.Ytebpekgijakonaa
