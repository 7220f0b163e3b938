/- frame: All, texts: told. -/
import Derived.Test.YtbpcljkapkjheaaD02k
namespace Go.Proofs.Ytbpcljkapkjheaa
open Ab

/-- what all frames' bodies are: bodies, the place, the error -/
structure Al where
  L : List ByteArray
  a : Int
  e : Int
def bodyS (s : ByteArray) (a : Int) : ByteArray := cutB s (a + 4) (a + 4 + szN s a)
def allF : Nat → ByteArray → Int → List ByteArray → Al
  | 0, _, a, L => ⟨L, a, 0⟩
  | n + 1, s, a, L => if nxE s a = 0 then allF n s (a + szN s a + 5) (L ++ [bodyS s a]) else ⟨L, a, if nxE s a = 9 then 0 else nxE s a⟩
def allT (s : ByteArray) : Al := allF (s.size + 1) s 0 []
def txB (L : List ByteArray) : Blk := .segs [⟨L.length, 1, [.str L]⟩]
def liV (L : List ByteArray) (j : Nat) : AVal := .slice (.own j 0 0 1) L.length none
def noneA (s : ByteArray) : Bool := (allT s).L.isEmpty
def lowT (s : ByteArray) : Bool := decide (s.size ≤ 1000000000000)

/-! ### The loops of All -/

def pA : List Bool := [false, false, true, false, true]
def pR : List Bool := [false, true, true, true]
def isN (s : ByteArray) (y : Al) : Prop := y = allT s ∧ y.L = []
def isG (s : ByteArray) (y : Al) : Prop := y = allT s ∧ 0 < y.L.length
def alO (us : List AVal) (_ : List Blk) : Option ByteArray := match us with
  | .str s :: _ => some s
  | _ => none
def alD : RDeal ByteArray where
  ins s := [(0, .str s), (2, .nils), (3, .int .i64 0), (4, .int .i64 0)]
  blks _ := []
  pre := lowT
  alts := [⟨Al, .exit 0, isN, fun _ y => [(2, .nils), (3, .int .i64 y.a), (4, .int .i64 y.e)], fun _ _ => []⟩,
    ⟨Al, .exit 0, isG, fun _ y => [(2, liV y.L 0), (3, .int .i64 y.a), (4, .int .i64 y.e)], fun _ y => [txB y.L]⟩]
def arD : RDeal ByteArray where
  ins s := [(0, .str s), (5, .nils), (6, .int .i64 0)]
  blks _ := []
  pre := lowT
  alts := [⟨Al, .ret, isN, fun _ y => [(2, .nils), (3, .int .i64 y.a), (4, .int .i64 y.e)], fun _ _ => []⟩,
    ⟨Al, .ret, isG, fun _ y => [(2, liV y.L 0), (3, .int .i64 y.a), (4, .int .i64 y.e)], fun _ y => [txB y.L]⟩]
def TAl : Tolds := sumT 12 pA (toldR 29 alD [0, 2, 3, 4] alO) (sumT 17 pR (toldR 31 arD [0, 5, 6] alO) noT)
def allN : CDeal ByteArray := ⟨fun s => [.str s], fun _ => [], fun s => lowT s && noneA s, fun s => .tup [.nils, .int .i64 (allT s).a, .int .i64 (allT s).e], fun _ => []⟩
def allG : CDeal ByteArray := ⟨fun s => [.str s], fun _ => [], fun s => lowT s && !noneA s, fun s => .tup [liV (allT s).L 0, .int .i64 (allT s).a, .int .i64 (allT s).e], fun s => [txB (allT s).L]⟩

/-! ### texts -/

inductive Tq
  | nn
  | ng (B : List ByteArray) (m : Nat) (c : Option Nat)
  | gn (A : List ByteArray)
  | gg (A B : List ByteArray) (m : Nat) (c : Option Nat)
def Tq.isNN : Tq → Bool
  | .nn => true
  | _ => false
def Tq.isNG : Tq → Bool
  | .ng .. => true
  | _ => false
def Tq.isGN : Tq → Bool
  | .gn .. => true
  | _ => false
def Tq.isGG : Tq → Bool
  | .gg .. => true
  | _ => false
def tqO (us : List AVal) (Bs : List Blk) : Option Tq := match us, Bs with
  | [.nils, .nils], _ => some .nn
  | [.nils, .slice _ m c], [.segs [⟨_, _, [.str B]⟩]] => some (.ng B m c)
  | [.slice _ _ _, .nils], [.segs [⟨_, _, [.str A]⟩]] => some (.gn A)
  | [.slice _ _ _, .slice _ m c], [.segs [⟨_, _, [.str A]⟩], .segs [⟨_, _, [.str B]⟩]] => some (.gg A B m c)
  | _, _ => none
def Tq.args : Tq → List AVal
  | .nn => [.nils, .nils]
  | .ng _ m c => [.nils, .slice (.own 0 0 0 1) m c]
  | .gn A => [liV A 0, .nils]
  | .gg A _ m c => [liV A 0, .slice (.own 1 0 0 1) m c]
def Tq.blks : Tq → List Blk
  | .nn => []
  | .ng B _ _ => [txB B]
  | .gn A => [txB A]
  | .gg A B _ _ => [txB A, txB B]
def Tq.ok : Tq → Bool
  | .nn => true
  | .ng B m _ => decide (m ≤ B.length) && decide (B.length ≤ 1000000000000)
  | .gn A => decide (0 < A.length) && decide (A.length ≤ 1000000000000)
  | .gg A B m _ => decide (0 < A.length) && (decide (A.length ≤ 1000000000000) && (decide (m ≤ B.length) && decide (B.length ≤ 1000000000000)))
def alikeL : List ByteArray → List ByteArray → Bool
  | [], [] => true
  | a :: l, b :: m => (ByteArray.toList a == ByteArray.toList b) && alikeL l m
  | _, _ => false
def Tq.says : Tq → Bool
  | .nn => true
  | .ng _ m _ => decide (m = 0)
  | .gn _ => false
  | .gg A B m _ => alikeL A (B.take m)
def txD (c : Tq → Bool) : CDeal Tq := ⟨Tq.args, Tq.blks, fun x => x.ok && c x, fun x => .bool x.says, Tq.blks⟩
structure T2 where
  A : List ByteArray
  B : List ByteArray
  m : Nat
  c : Option Nat
def T2.at (x : T2) (i : Int) : List (Nat × AVal) := [(0, liV x.A 0), (1, .slice (.own 1 0 0 1) x.m x.c), (5, .int .i64 i)]
def t2O (us : List AVal) (Bs : List Blk) : Option T2 := match us, Bs with
  | [_, .slice _ m c, _], [.segs [⟨_, _, [.str A]⟩], .segs [⟨_, _, [.str B]⟩]] => some ⟨A, B, m, c⟩
  | _, _ => none
def t2E (x : T2) (_ : Unit) : Prop := alikeL x.A (x.B.take x.m) = true
def t2N (x : T2) (_ : Unit) : Prop := alikeL x.A (x.B.take x.m) = false
def t2D : RDeal T2 where
  ins x := x.at 0
  blks x := [txB x.A, txB x.B]
  pre x := decide (x.A.length = x.m) && (decide (x.m ≤ x.B.length) && decide (x.B.length ≤ 1000000000000))
  alts := [⟨Unit, .exit 0, t2E, fun _ _ => [], fun x _ => [txB x.A, txB x.B]⟩, ⟨Unit, .ret, t2N, fun _ _ => [(4, .bool false)], fun x _ => [txB x.A, txB x.B]⟩]
def pX : List Bool := [false, true, false, true, true]
def TX : Tolds := sumT 13 pX (toldR 26 t2D [0, 1, 5] t2O) noT
def S4 : Sums := sumF 17 (callNG [(noneA, allN)] allG txO) (sumF 12 (callNG [(noneA, allN)] allG txO) S3)
def S5 : Sums := sumF 13 (callNG [(Tq.isNN, txD Tq.isNN), (Tq.isNG, txD Tq.isNG), (Tq.isGN, txD Tq.isGN)] (txD Tq.isGG) tqO) S4
end Go.Proofs.Ytbpcljkapkjheaa
