/- align: AlignCuts: the turns: what is told. -/
import Derived.Test.YtbdjcekekhgnkaaP24h
namespace Go.Proofs.Ytbdjcekekhgnkaa
open Ab

/-- a turn: how many ways in, the orders, the turn, the aligner, what is taken of each way, the barrier -/
structure Md where
  n : Nat
  O : AVal
  t : Int
  x : Al
  a : List Int
  ls : List Nat
  fs : List Bool
  w : Int

def Md.bs (y : Md) : List Blk := [y.x.blk, rK y.ls.length y.ls y.fs, elI y.a]
def Md.ins (y : Md) : List (Nat × AVal) := [(0, .slice (.ro 0 0 0 0) y.n none), (2, y.O), (7, .ptr (.own 0 0 0 0)), (8, .slice (.own 1 0 0 1) y.ls.length none), (11, .slice (.own 2 0 0 1) y.a.length (some y.a.length)), (12, .int .i64 y.t)]

/-- what is next on way k, what was last taken -/
def rowAt (T : Tc) (k : Nat) : List Int := T.F.getD k []
def lastOf (T : Tc) (a : List Int) (k : Nat) : Int := (rowAt T k).getD (a.getD k 0 - 1).toNat 0
def blkd (x : Al) (n k : Nat) : Bool := if k < n then isB x.p k else isB x.q ((k : Int) - n)

def okShape (T : Tc) (y : Md) : Prop := okO y.O ∧ y.ls = T.F.map List.length ∧ (y.fs = T.F.map fun _ => false) ∧ y.a.length = T.F.length ∧ T.F.length ≤ 20 ∧ 1 ≤ y.n ∧ y.n ≤ T.F.length ∧ okAl y.x = true ∧ y.x.n = y.n ∧ y.x.m = (T.F.length : Int) - y.n ∧ (0 ≤ y.t ∧ y.t ≤ 400) ∧
  (0 ≤ y.x.l ∧ y.x.l ≤ 10) ∧ ∀ k, k < T.F.length → (rowAt T k).length ≤ 100 ∧ 0 ≤ y.a.getD k 0 ∧ y.a.getD k 0 ≤ (rowAt T k).length
open Classical in
noncomputable def okShapeB (T : Tc) (y : Md) : Bool := decide (okShape T y)

/-- all ways stand at the barrier -/
def okChk (T : Tc) (y : Md) : Prop := okShape T y ∧ ∀ k, k < T.F.length → 1 ≤ y.a.getD k 0 ∧ lastOf T y.a k = y.w
open Classical in
noncomputable def okChkB (T : Tc) (y : Md) : Bool := decide (okChk T y)

noncomputable def chD (T : Tc) : RDeal Md where
  ins y := y.ins ++ [(13, .int .i64 y.w), (14, .int .i64 0)]
  blks := Md.bs
  pre := okChkB T
  alts := [⟨Unit, .exit 6, fun _ _ => True, fun y _ => y.ins ++ [(13, .int .i64 y.w)], fun y _ => y.bs⟩]

/-- what may be taken -/
def may (T : Tc) (y : Md) (k : Nat) : Bool := !(blkd y.x y.n k) && decide (y.a.getD k 0 < (rowAt T k).length)
def okSync (T : Tc) (y : Md) : Prop := okShape T y ∧ (∀ k, k < T.F.length → 0 < y.a.getD k 0 → blkd y.x y.n k = decide (lastOf T y.a k = y.x.l + 1)) ∧ ∃ k, k < T.F.length ∧ may T y k = true
open Classical in
noncomputable def okSyncB (T : Tc) (y : Md) : Bool := decide (okSync T y)
def MayIs (T : Tc) (y : Md) (ms : List Int) : Prop := 0 < ms.length ∧ ms.length ≤ 20 ∧ ∀ j, j < ms.length → 0 ≤ ms.getD j 0 ∧ ms.getD j 0 < T.F.length ∧ may T y (ms.getD j 0).toNat = true

def MayP (T : Tc) (n : Nat) (x : Al) (a ms : List Int) : Prop := MayIs T ⟨n, .nils, 0, x, a, [], [], 0⟩ ms

noncomputable def myD (T : Tc) : RDeal Md where
  ins y := y.ins ++ [(15, .nils), (16, .int .i64 0)]
  blks := Md.bs
  pre := okSyncB T
  alts := [⟨List Int, .exit 8, fun y ms => MayP T y.n y.x y.a ms, fun y ms => y.ins ++ [(15, .slice (.own 3 0 0 1) ms.length none)], fun y ms => y.bs ++ [elI ms]⟩]

def mdO (us : List AVal) (Bs : List Blk) : Option Md := match us, Bs with
  | .slice _ n _ :: O :: _ :: _ :: _ :: .int _ t :: r, [A, .segs [⟨_, _, [.subs _ ls fs]⟩], .segs [⟨_, _, [.int _ a]⟩]] => match alOf A, r with
    | some x, [.int _ w, .int _ _] => some ⟨n, O, t, x, a, ls, fs, w⟩
    | some x, [.nils, .int _ _] => some ⟨n, O, t, x, a, ls, fs, 0⟩
    | some x, [] => some ⟨n, O, t, x, a, ls, fs, 0⟩
    | _, _ => none
  | _, _ => none

def pCh : List Bool := [false, true, false, true, false, true, false, false, false, true, false, false, true, false, true, true, true, true, true, true, true, true, true, true]
def pMy : List Bool := [false, true, false, true, true, false, false, true, false, false, true, false, true, true, true, true, true, true, true, true, true, true]
def pTu : List Bool := [false, true, false, true, true, true, true, true, true, true, true, true, true]
noncomputable def TC (T : Tc) : Tolds := sumT 4 pCh (toldR 251 (chD T) [0, 2, 7, 8, 11, 12, 13, 14] mdO) (sumT 4 pMy (toldR 251 (myD T) [0, 2, 7, 8, 11, 12, 15, 16] mdO) noT)

end Go.Proofs.Ytbdjcekekhgnkaa
