/- frame: Next's question of the size, told. -/
import Derived.Test.YtbpcljkapkjheaaD02
namespace Go.Proofs.Ytbpcljkapkjheaa
open Ab

def bxS (s : ByteArray) : Blk := .segs [⟨1, 1, [.str [s]]⟩]
def bxI (n : Int) : Blk := .segs [⟨1, 1, [.int .i64 [n]]⟩]
def bytesB (xs : List Int) : Blk := .segs [⟨xs.length, 1, [.int .u8 xs]⟩]
def cut3 (s : ByteArray) (a : Int) : ByteArray := s.extract (orNat (some (wr .i64 (a + 1))) 0) (orNat (some (wr .i64 (a + 4))) s.size)
structure Sz where
  s : ByteArray
  a : Int
  n : Int
  xs : List Int
  c : Option Nat
def szO (us : List AVal) (Bs : List Blk) : Option Sz := match us, Bs with
  | [_, .slice _ _ c, _, _], [.segs [⟨_, _, [.str [s]]⟩], .segs [⟨_, _, [.int _ [a]]⟩], .segs [⟨_, _, [.int _ [n]]⟩], .segs [⟨_, _, [.int _ xs]⟩]] => some ⟨s, a, n, xs, c⟩
  | _, _ => none
def Sz.at (x : Sz) (i : Int) : List (Nat × AVal) := [(2, .ptr (.own 2 0 0 0)), (12, .slice (.own 3 0 0 1) x.xs.length x.c), (13, .int .i64 x.xs.length), (14, .int .i64 i)]
def sizeOf (n : Int) (xs : List Int) : Int := xs.foldl (fun m b => wr .i64 (wr .i64 (m * 256) + wr .i64 b)) n
def szD : RDeal Sz where
  ins x := x.at 0
  blks x := [bxS x.s, bxI x.a, bxI x.n, bytesB x.xs]
  pre x := decide (x.xs.length ≤ 1000)
  alts := [⟨Unit, .exit 0, fun _ _ => True, fun _ _ => [(2, .ptr (.own 2 0 0 0))], fun x _ => [bxS x.s, bxI x.a, bxI (sizeOf x.n x.xs)]⟩]
def pZ : List Bool := [false, true, false, true]
def TZ : Tolds := sumT 18 pZ (toldR 26 szD [2, 12, 13, 14] szO) noT

def nums (t : ByteArray) : List Int := t.data.toList.map fun b => ((UInt8.toNat b : Nat) : Int)
structure Qz where
  s : ByteArray
  a : Int
  n : Int
def qzO (_ : List AVal) (Bs : List Blk) : Option Qz := match Bs with
  | [.segs [⟨_, _, [.str [s]]⟩], .segs [⟨_, _, [.int _ [a]]⟩], .segs [⟨_, _, [.int _ [n]]⟩]] => some ⟨s, a, n⟩
  | _ => none
def sizeT (x : Qz) : Int := sizeOf x.n (nums (cut3 x.s x.a))
def sizeD : CDeal Qz := ⟨fun _ => [.ptr (.own 0 0 0 0), .ptr (.own 1 0 0 0), .ptr (.own 2 0 0 0)], fun x => [bxS x.s, bxI x.a, bxI x.n], fun x => decide (0 ≤ x.a) && (decide (x.a + 4 ≤ (x.s.size : Nat)) && decide (x.s.size ≤ 1000000000000)), fun x => .bool (decide (sizeT x ≤ 1048576)), fun x => [bxS x.s, bxI x.a, bxI (sizeT x)]⟩
def cutB (s : ByteArray) (lo hi : Int) : ByteArray := s.extract (orNat (some lo) 0) (orNat (some hi) s.size)
def rawN (s : ByteArray) (a : Int) : Int := wr .i64 (wr .i64 (wr .i64 (wr .i64 (↑(BitVec.toNat (List.getD (Array.toList (ByteArray.data s)) (Int.toNat (wr .i64 (a + 1))) 0).1) : Int) * 65536) + wr .i64 (wr .i64 (↑(BitVec.toNat (List.getD (Array.toList (ByteArray.data s)) (Int.toNat (wr .i64 (a + 2))) 0).1) : Int) * 256)) + wr .i64 (↑(BitVec.toNat (List.getD (Array.toList (ByteArray.data s)) (Int.toNat (wr .i64 (a + 3))) 0).1) : Int))
def SN : Sums := sumF 18 (callG sizeD qzO) noS

end Go.Proofs.Ytbpcljkapkjheaa
