/- net: a net's numbers; contracts of its functions. -/
import Derived.Test.YtohdkgdaccoohaaH19
import Derived.Test.YtohdkgdaccoohaaE05
namespace Go.Proofs.Ytohdkgdaccoohaa
open Ab

/-- a net: how many are on their way, the row, how many were sent, and lost -/
structure Nt where
  n : Nat
  xs : List ByteArray
  s : Int
  l : Int
def Nt.b0 (y : Nt) : Blk := .segs [⟨1, 1, [.val [.slice (.own 1 0 0 1) y.n (some y.xs.length)]]⟩, ⟨2, 1, [.int .i64 [y.s, y.l]]⟩]
def Nt.b1 (y : Nt) : Blk := .segs [⟨y.xs.length, 1, [.str y.xs]⟩]
def Nt.blks (y : Nt) : List Blk := [y.b0, y.b1]
def ntOf : List Blk → Option Nt
  | [.segs [⟨_, _, [.val [.slice _ n _]]⟩, ⟨_, _, [.int _ [s, l]]⟩], .segs [⟨_, _, [.str xs]⟩]] => some ⟨n, xs, s, l⟩
  | _ => none
def okNt (y : Nt) : Bool := decide (y.n ≤ y.xs.length) && (decide (y.xs.length ≤ 64) && (decide (4 ≤ y.xs.length) && (decide (0 ≤ y.s) && (decide (y.s ≤ 100000) && (decide (0 ≤ y.l) && decide (y.l ≤ 100000))))))
def Nt.room (y : Nt) : Bool := decide (y.n < y.xs.length)
def putS (xs : List ByteArray) (i : Nat) (t : ByteArray) : List ByteArray := xs.take i ++ ([t] ++ xs.drop (i + 1))
def Nt.send (y : Nt) (t : ByteArray) : Nt := if y.room = true then ⟨y.n + 1, putS y.xs y.n t, y.s + 1, y.l⟩ else ⟨y.n, y.xs, y.s + 1, y.l + 1⟩
def shut (xs : List ByteArray) (n k : Nat) : List ByteArray := xs.take k ++ ((xs.drop (k + 1)).take (n - (k + 1)) ++ xs.drop (n - 1))
def Nt.gone (y : Nt) (k : Nat) : Nt := ⟨y.n - 1, shut y.xs y.n k, y.s, y.l⟩
def Nt.has (y : Nt) (k : Int) : Bool := decide (0 ≤ k) && decide (k < y.n)

structure NtS where
  y : Nt
  t : ByteArray
def ntS (us : List AVal) (Bs : List Blk) : Option NtS := match us, ntOf Bs with
  | [_, .str t], some y => some ⟨y, t⟩
  | _, _ => none
def sendD : CDeal NtS := ⟨fun x => [.ptr (.own 0 0 0 0), .str x.t], fun x => x.y.blks, fun x => okNt x.y, fun x => .bool x.y.room, fun x => (x.y.send x.t).blks⟩

def noTx : ByteArray := ⟨⟨[]⟩⟩
structure NtK where
  y : Nt
  k : Int
def ntK (us : List AVal) (Bs : List Blk) : Option NtK := match us, ntOf Bs with
  | [_, .int _ k], some y => some ⟨y, k⟩
  | _, _ => none
def nt1 (_ : List AVal) (Bs : List Blk) : Option Nt := ntOf Bs
def Nt.text (y : Nt) (k : Int) : ByteArray := if y.has k = true then y.xs.getD k.toNat noTx else noTx
def Nt.err (y : Nt) (k : Int) : Int := if y.has k = true then 0 else 2
def Nt.del (y : Nt) (k : Int) : Nt := if y.has k = true then y.gone k.toNat else y
def Nt.lose (y : Nt) (k : Int) : Nt := if y.has k = true then ⟨y.n - 1, shut y.xs y.n k.toNat, y.s, y.l + 1⟩ else y
def Nt.terr (y : Nt) (k : Int) : Int := if y.has k = true then (if y.room = true then 0 else 8) else 2
def Nt.twice (y : Nt) (k : Int) : Nt := if (y.has k && y.room) = true then y.send (y.xs.getD k.toNat noTx) else y
def Nt.copy (y : Nt) : Nt := ⟨y.n, y.xs.take y.n ++ List.replicate (y.xs.length - y.n) noTx, y.s, y.l⟩
def nkD (out : NtK → AVal) (nx : NtK → Nt) : CDeal NtK := ⟨fun x => [.ptr (.own 0 0 0 0), .int .i64 x.k], fun x => x.y.blks, fun x => okNt x.y, out, fun x => (nx x).blks⟩
def deliverD : CDeal NtK := nkD (fun x => .tup [.str (x.y.text x.k), .int .i64 (x.y.err x.k)]) fun x => x.y.del x.k
def loseD : CDeal NtK := nkD (fun x => .int .i64 (x.y.err x.k)) fun x => x.y.lose x.k
def twiceD : CDeal NtK := nkD (fun x => .int .i64 (x.y.terr x.k)) fun x => x.y.twice x.k
def getN (out : Nt → AVal) : CDeal Nt := ⟨fun _ => [.ptr (.own 0 0 0 0)], Nt.blks, okNt, out, Nt.blks⟩
def lenD : CDeal Nt := getN fun y => .int .i64 y.n
def sentD : CDeal Nt := getN fun y => .int .i64 y.s
def lostD : CDeal Nt := getN fun y => .int .i64 y.l
def copyD : CDeal Nt := ⟨fun _ => [.ptr (.own 0 0 0 0)], Nt.blks, okNt, fun _ => .ptr (.own 3 0 0 0), fun y => y.blks ++ [y.copy.b1, .segs [⟨1, 1, [.val [.slice (.own 2 0 0 1) y.copy.n (some y.copy.xs.length)]]⟩, ⟨2, 1, [.int .i64 [y.s, y.l]]⟩]]⟩

/-- a new net -/
def newOk (c : Int) : Bool := decide (4 ≤ c) && decide (c ≤ 64)
def newNt (c : Int) : Nt := ⟨0, List.replicate c.toNat noTx, 0, 0⟩
def numO (us : List AVal) (_ : List Blk) : Option Int := match us with
  | [.int _ c] => some c
  | _ => none
def newD : CDeal Int := ⟨fun c => [.int .i64 c], fun _ => [], newOk, fun _ => .ptr (.own 1 0 0 0), fun c => [(newNt c).b1, .segs [⟨1, 1, [.val [.slice (.own 0 0 0 1) 0 (some c.toNat)]]⟩, ⟨2, 1, [.int .i64 [0, 0]]⟩]]⟩
def new0D : CDeal Int := ⟨fun c => [.int .i64 c], fun _ => [], fun c => !newOk c, fun _ => .nilp, fun _ => []⟩
def S1 : Sums := sumF 20 (callG trueD fun _ _ => some ()) (sumF 19 (callG lostD nt1) (sumF 18 (callG sentD nt1) (sumF 17 (callG lenD nt1) (sumF 16 (callG copyD nt1) (sumF 14 (callG twiceD ntK) (sumF 12 (callG loseD ntK) (sumF 10 (callG deliverD ntK) (sumF 8 (callG sendD ntS) (sumF 6 (callNG [(newOk, newD)] new0D numO) noS)))))))))

end Go.Proofs.Ytohdkgdaccoohaa
