/- acc: contracts of the functions. -/
import Derived.Test.YtebpekgijakonaaD05b
namespace Go.Proofs.Ytebpekgijakonaa
open Ab

def acOf : AVal → Option Ac
  | .agg [.int .i64 n, .int .i64 h, .int .u64 l, .int .i64 a, .int .i64 b] => some ⟨n, h, l, a, b⟩
  | _ => none
def dec1 : List AVal → Option Int
  | [.int .i64 v] => some v
  | _ => none
def dec2 : List AVal → Option (Ac × Ac)
  | [x, y] => match acOf x, acOf y with
    | some x, some y => some (x, y)
    | _, _ => none
  | _ => none
def decR : List AVal → Option (Ac × Int)
  | [x, .int .i64 g] => match acOf x with
    | some x => some (x, g)
    | none => none
  | _ => none

def okL (x : Ac) : Bool := decide (0 ≤ x.l) && decide (x.l < 18446744073709551616)
def okV (v : Int) : Bool := decide (-9223372036854775808 ≤ v) && decide (v < 9223372036854775808)

def oneD : PDeal Int := ⟨fun v => [.int .i64 v], fun _ => true, fun v => (one v).v⟩
def roneD : PDeal Int := ⟨fun v => [.int .i64 v], fun v => okV v, fun v => (one v).v⟩
def mergeD : PDeal (Ac × Ac) := ⟨fun p => [p.1.v, p.2.v], fun p => okL p.1 && okL p.2, fun p => (merge p.1 p.2).v⟩

def fits (x : Ac) : Bool := decide (Int.fdiv (wr .i64 x.l) 9223372036854775808 = x.h)
def resV (x : Ac) (g : Int) : Int := if g = 0 then x.n else if g = 1 then (if fits x = true then wr .i64 x.l else 0) else if g = 2 then x.a else if g = 3 then x.b else 0
def resB (x : Ac) (g : Int) : Bool := if g = 0 then true else if g = 1 then fits x else if g = 2 then true else if g = 3 then true else false
def resD : PDeal (Ac × Int) := ⟨fun p => [p.1.v, .int .i64 p.2], fun _ => true, fun p => .tup [.int .i64 (resV p.1 p.2), .bool (resB p.1 p.2)]⟩
def rresD : PDeal (Ac × Int) := ⟨fun p => [p.1.v, .int .i64 p.2], fun p => okL p.1, fun p => .tup [.int .i64 (resV p.1 p.2), .bool (resB p.1 p.2)]⟩

def S8 : Sums := sumF 13 (callP rresD decR) (sumF 12 (callP resD decR) (sumF 11 (callP mergeD dec2) (sumF 10 (callP mergeD dec2) (sumF 9 (callP roneD dec1) (sumF 8 (callP oneD dec1) S14)))))

end Go.Proofs.Ytebpekgijakonaa
