/- oper: OperSorts: contracts. -/
import Derived.Test.YtbfebjmmpiffpaaD04c
namespace Go.Proofs.Ytbfebjmmpiffpaa
open Ab

def S3 : Sums := sumF 15 (callNG [(Ap.none, apNone)] apSome apO) S2
def Rc.cells (r : Rc) : Blk := .segs [⟨1, 1, [.int .u32 [r.key]]⟩, ⟨1, 1, [.int .i64 [r.time]]⟩, ⟨1, 1, [.int .i64 [r.val]]⟩, ⟨1, 1, [.int .u8 [r.side]]⟩, ⟨1, 1, [.bool [r.err]]⟩, ⟨1, 1, [.bool [r.late]]⟩]
def rcOf : Blk → Option Rc
  | .segs [⟨_, _, [.int _ [k]]⟩, ⟨_, _, [.int _ [t]]⟩, ⟨_, _, [.int _ [v]]⟩, ⟨_, _, [.int _ [s]]⟩, ⟨_, _, [.bool [e]]⟩, ⟨_, _, [.bool [l]]⟩] => some ⟨k, t, v, s, e, l⟩
  | _ => none
structure So where
  b : Int
  r : Rc
  a : Int
def So.at (x : So) (n i : Int) : List (Nat × AVal) := [(2, .int .u32 x.b), (3, .ptr (.own 0 0 0 0)), (7, .int .i64 x.a), (8, .int .i64 n), (9, .int .i64 i)]
def soO (us : List AVal) (Bs : List Blk) : Option So := match us, Bs with
  | [.int _ b, _, .int _ a, _, _], [R] => match rcOf R with
    | some r => some ⟨b, r, a⟩
    | none => none
  | _, _ => none
def soD : RDeal So where
  ins x := x.at 0 0
  blks x := [x.r.cells]
  pre x := !x.r.err && (!x.r.late && (decide (1 ≤ x.a) && decide (x.a ≤ 20)))
  alts := [⟨Unit, .exit 0, fun _ _ => True, fun x _ => [(2, .int .u32 x.b), (3, .ptr (.own 0 0 0 0)), (7, .int .i64 x.a), (8, .int .i64 1)], fun x _ => [x.r.cells]⟩]
def pS : List Bool := [false, true, false, true, true, true, true, true, true]
def TSo : Tolds := sumT 6 pS (toldR 85 soD [2, 3, 7, 8, 9] soO) noT

end Go.Proofs.Ytbfebjmmpiffpaa
