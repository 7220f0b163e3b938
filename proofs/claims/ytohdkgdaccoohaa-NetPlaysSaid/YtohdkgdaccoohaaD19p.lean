/- net: NetPlays: the document's net; the acts; the loops: told. -/
import Derived.Test.YtohdkgdaccoohaaD19b
namespace Go.Proofs.Ytohdkgdaccoohaa
open Ab

/-- a row of texts: none, the empty one, one that was built -/
inductive Rf
  | n
  | e
  | g (L : List ByteArray)
def Rf.list : Rf → List ByteArray
  | .n => []
  | .e => []
  | .g L => L
def Rf.sl (j : Nat) : Rf → AVal
  | .n => .nils
  | .e => .slice (.own j 0 0 1) 0 (some 0)
  | .g L => .slice (.own j 0 0 1) L.length none
def Rf.bs : Rf → List Blk
  | .n => []
  | .e => [.segs [⟨0, 1, [.val []]⟩]]
  | .g L => [.segs [⟨L.length, 1, [.str L]⟩]]
/-- the document's net -/
structure Rr where
  c : Int
  f : Rf
  s : Int
  l : Int
def Rr.b0 (r : Rr) (j : Nat) : Blk := .segs [⟨1, 1, [.int .i64 [r.c]]⟩, ⟨1, 1, [.val [r.f.sl j]]⟩, ⟨1, 1, [.int .i64 [r.s]]⟩, ⟨1, 1, [.int .i64 [r.l]]⟩]
def Rr.blks (r : Rr) : List Blk := r.b0 1 :: r.f.bs
def rfOf : List Blk → Option Rf
  | [] => some .n
  | [.segs [⟨_, _, [.val _]⟩]] => some .e
  | [.segs [⟨_, _, [.str L]⟩]] => some (.g L)
  | _ => none
def rrOf : List Blk → Option Rr
  | .segs [⟨_, _, [.int _ [c]]⟩, _, ⟨_, _, [.int _ [s]]⟩, ⟨_, _, [.int _ [l]]⟩] :: Bs => match rfOf Bs with
    | some f => some ⟨c, f, s, l⟩
    | none => none
  | _ => none
def okRf : Rf → Bool
  | .g L => decide (0 < L.length)
  | _ => true
def okRr (r : Rr) : Bool := okRf r.f && (decide (r.f.list.length ≤ 64) && (decide (4 ≤ r.c) && (decide (r.c ≤ 64) && (decide (0 ≤ r.s) && (decide (r.s ≤ 100000) && (decide (0 ≤ r.l) && decide (r.l ≤ 100000)))))))

structure RrT where
  r : Rr
  t : ByteArray
def rrT (us : List AVal) (Bs : List Blk) : Option RrT := match us, rrOf Bs with
  | [_, .str t], some r => some ⟨r, t⟩
  | _, _ => none
def fullF (c : Int) : Rf → Bool
  | .g L => decide (c ≤ (L.length : Nat))
  | _ => false
def sentR (x : RrT) : Rr := ⟨x.r.c, .g (x.r.f.list ++ [x.t]), x.r.s + 1, x.r.l⟩
def put1 (r : Rr) (f : Rf) : List Blk := match f with
  | .n => r.b0 1 :: r.f.bs
  | f => r.b0 2 :: (f.bs ++ r.f.bs)
def sendFD : CDeal RrT := ⟨fun x => [.ptr (.own 0 0 0 0), .str x.t], fun x => x.r.blks, fun x => okRr x.r && fullF x.r.c x.r.f, fun _ => .bool false, fun x => (⟨x.r.c, x.r.f, x.r.s + 1, x.r.l + 1⟩ : Rr).blks⟩
def sendRD : CDeal RrT := ⟨fun x => [.ptr (.own 0 0 0 0), .str x.t], fun x => x.r.blks, fun x => okRr x.r && !fullF x.r.c x.r.f, fun _ => .bool true, fun x => put1 (sentR x) x.r.f⟩

structure RrK where
  r : Rr
  k : Int
def rrK (us : List AVal) (Bs : List Blk) : Option RrK := match us, rrOf Bs with
  | [_, .int _ k], some r => some ⟨r, k⟩
  | _, _ => none
def hasF (k : Int) : Rf → Bool
  | .g L => decide (0 ≤ k) && decide (k < (L.length : Nat))
  | _ => false
def oneF : Rf → Bool
  | .g L => decide (L.length = 1)
  | _ => false
def delNoD : CDeal RrK := ⟨fun x => [.ptr (.own 0 0 0 0), .int .i64 x.k], fun x => x.r.blks, fun x => okRr x.r && !hasF x.k x.r.f, fun _ => .tup [.str noTx, .int .i64 2], fun x => x.r.blks⟩
def delED : CDeal RrK := ⟨fun x => [.ptr (.own 0 0 0 0), .int .i64 x.k], fun x => x.r.blks, fun x => okRr x.r && (hasF x.k x.r.f && oneF x.r.f), fun x => .tup [.str (x.r.f.list.getD x.k.toNat noTx), .int .i64 0], fun x => put1 ⟨x.r.c, .e, x.r.s, x.r.l⟩ x.r.f⟩
def delGD : CDeal RrK := ⟨fun x => [.ptr (.own 0 0 0 0), .int .i64 x.k], fun x => x.r.blks, fun x => okRr x.r && (hasF x.k x.r.f && !oneF x.r.f), fun x => .tup [.str (x.r.f.list.getD x.k.toNat noTx), .int .i64 0], fun x => put1 ⟨x.r.c, .g (x.r.f.list.eraseIdx x.k.toNat), x.r.s, x.r.l⟩ x.r.f⟩
def newRD : CDeal Int := ⟨fun c => [.int .i64 c], fun _ => [], newOk, fun _ => .ptr (.own 0 0 0 0), fun c => (⟨c, .n, 0, 0⟩ : Rr).blks⟩
def S2 : Sums := sumF 11 (callNG [(fun x => !hasF x.k x.r.f, delNoD), (fun x => oneF x.r.f, delED)] delGD rrK) (sumF 9 (callNG [(fun x => fullF x.r.c x.r.f, sendFD)] sendRD rrT) (sumF 7 (callNG [(newOk, newRD)] new0D numO) S1))

end Go.Proofs.Ytohdkgdaccoohaa
