/- front: FrontPlays: the acts, side by side; contracts. -/
import Derived.Test.YtnnbbjfbhigcfaaD23f
namespace Go.Proofs.Ytnnbbjfbhigcfaa
open Ab

def holdM (T : Tb) (i : Nat) : Int := if 9 < ((T.ns.getD i 0 : Nat) : Int) then 9 else ((T.ns.getD i 0 : Nat) : Int)
def holdS (T : Tb) (i : Nat) : Sl := if T.bs.getD i true then .nil else .ro i (holdM T i).toNat
def kindI (T : Tb) (i : Nat) : Int := Int.tmod (T.w.getD i 0) 5
def stepX (T : Tb) (i : Nat) (x : Fr) : Fr := if kindI T i < 4 then x.mark (wr .i64 (T.i.getD i 0)) (T.a.getD i 0) else x.tell T (holdS T i)
/-- behind the first acts -/
def runX (T : Tb) (x : Fr) : Nat → Fr
  | 0 => x
  | i + 1 => stepX T i (runX T x i)
def runN (T : Tb) : AVal → Nat
  | .slice _ _ _ => min T.w.length 80
  | _ => 0
def Fr.r (x : Fr) : Rr := ⟨x.l, x.t⟩

/-- two fronts, and the acts; or none -/
structure Pl where
  V : AVal
  x : Fr
  r : Rr
inductive Py
  | two (y : Pl)
  | non (V : AVal)
def plB (y : Pl) : List Blk := [y.x.blk, y.r.b0 2, y.r.b1]
def pyA : Py → List AVal
  | .two y => [.ptr (.own 0 0 0 0), .ptr (.own 1 0 0 0), y.V]
  | .non V => [.nilp, .nilp, V]
def pyB : Py → List Blk
  | .two y => plB y
  | .non _ => []
def plOk (T : Tb) (y : Pl) : Bool := okV T y.V && (okFr y.x && (decide (y.r.l = y.x.l) && decide (y.r.t = y.x.t)))
def pyOk (T : Tb) : Py → Bool
  | .two y => plOk T y
  | .non V => okV T V
def pyE (T : Tb) : Py → List Blk
  | .two y => [(runX T y.x (runN T y.V)).blk, (runX T y.x (runN T y.V)).r.b0 2, (runX T y.x (runN T y.V)).r.b1]
  | .non _ => []
def pyO (us : List AVal) (Bs : List Blk) : Option Py := match us, Bs with
  | [.nilp, .nilp, V], [] => some (.non V)
  | [_, _, V], [A, B, C] => match frOf A, rrOf [B, C] with
    | some x, some r => some (.two ⟨V, x, r⟩)
    | _, _ => none
  | _, _ => none
def playD (T : Tb) : CDeal Py := ⟨pyA, pyB, pyOk T, fun _ => .bool true, pyE T⟩
def plO (us : List AVal) (Bs : List Blk) : Option Pl := match us, Bs with
  | [_, _, V], [A, B, C] => match frOf A, rrOf [B, C] with
    | some x, some r => some ⟨V, x, r⟩
    | _, _ => none
  | _, _ => none
def plLoop (T : Tb) : Deal Pl := ⟨fun y => [(0, .ptr (.own 0 0 0 0)), (1, .ptr (.own 1 0 0 0)), (2, y.V), (7, .int .i64 0)], plB, plOk T, fun _ => .exit 0, fun _ => [(0, .ptr (.own 0 0 0 0))], fun y => pyE T (.two y)⟩
def L15 (T : Tb) : Loops := sumL 15 [false, true, false, true, true] (loopG 143 (plLoop T) [0, 1, 2] plO) noL
def S8 (T : Tb) : Sums := sumF 15 (callG (playD T) pyO) (S7 T)

end Go.Proofs.Ytnnbbjfbhigcfaa
