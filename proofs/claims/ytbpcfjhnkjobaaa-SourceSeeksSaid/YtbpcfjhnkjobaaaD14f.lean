/- source: Next, told case by case. -/
import Derived.Test.YtbpcfjhnkjobaaaD14e
namespace Go.Proofs.Ytbpcfjhnkjobaaa
open Ab

def cOver (s : Src) : Bool := s.y.over
def cEnds (s : Src) : Bool := s.y.ends
def cMk (s : Src) : Bool := s.y.it.im.getD s.y.pl.toNat false
def tmOf (y : Sr) : Int := y.it.tm.getD y.pl.toNat 0
def rtOf (y : Sr) : Int := y.it.rt.getD y.pl.toNat 0
def kyOf (y : Sr) : Int := y.it.ky.getD y.pl.toNat 0
def vlOf (y : Sr) : Int := y.it.vl.getD y.pl.toNat 0
def sdOf (y : Sr) : Int := y.it.sd.getD y.pl.toNat 0
def cIn (s : Src) : Bool := cMk s && !outT (tmOf s.y)
def cErr (s : Src) : Bool := outT (rtOf s.y)
def cLate (s : Src) : Bool := decide (rtOf s.y < s.y.f)
def cD (pre : Src → Bool) (r : Sr → Rec6) (k : Int) (nx : Sr → Sr) : CDeal Src := ⟨fun _ => [.ptr (.own 0 0 0 0)], Src.blks, fun s => okP s && pre s, fun s => .tup [(r s.y).v, .int .i64 k], fun s => s.now (nx s.y)⟩
def mv (y : Sr) (f : Int) : Sr := ⟨y.it, y.late, f, y.pl + 1, false⟩
def dOver : CDeal Src := cD cOver (fun _ => noRec) 0 id
def dEnds : CDeal Src := cD (fun s => !cOver s && cEnds s) (fun _ => noRec) 4 fun y => ⟨y.it, y.late, far, y.pl + 1, true⟩
def dIn : CDeal Src := cD (fun s => !cOver s && (!cEnds s && cIn s)) (fun _ => noRec) 3 fun y => mv y (max y.f (tmOf y - y.late))
def dMk : CDeal Src := cD (fun s => !cOver s && (!cEnds s && (!cIn s && cMk s))) (fun _ => noRec) 3 fun y => mv y y.f
def dErr : CDeal Src := cD (fun s => !cOver s && (!cEnds s && (!cMk s && cErr s))) (fun y => ⟨kyOf y, y.f, 0, sdOf y, true, false⟩) 2 fun y => mv y y.f
def dLate : CDeal Src := cD (fun s => !cOver s && (!cEnds s && (!cMk s && (!cErr s && cLate s)))) (fun y => ⟨kyOf y, y.f, vlOf y, sdOf y, false, true⟩) 2 fun y => mv y y.f
def dGoes : CDeal Src := cD (fun s => !cOver s && (!cEnds s && (!cMk s && (!cErr s && !cLate s)))) (fun y => ⟨kyOf y, rtOf y, vlOf y, sdOf y, false, false⟩) 1 fun y => mv y y.f
def S5 (T : Tb) : Sums := sumF 13 (callNG [(cOver, dOver), (cEnds, dEnds), (cIn, dIn), (cMk, dMk), (cErr, dErr), (cLate, dLate)] dGoes src1) (S3 T)

def Rec6.blk (r : Rec6) : Blk := .segs [⟨1, 1, [.int .u32 [r.key]]⟩, ⟨1, 1, [.int .i64 [r.time]]⟩, ⟨1, 1, [.int .i64 [r.val]]⟩, ⟨1, 1, [.int .u8 [r.side]]⟩, ⟨1, 1, [.bool [r.err]]⟩, ⟨1, 1, [.bool [r.late]]⟩]

end Go.Proofs.Ytbpcfjhnkjobaaa
