/- source: drafts, new sources; contracts. -/
import Derived.Test.YtbpcfjhnkjobaaaD14
namespace Go.Proofs.Ytbpcfjhnkjobaaa
open Ab

/-- what the laws take: drafts, steps -/
structure Tb where
  w : List Int
  t : List Int
  it : Items
  st : List Int
def tabT (T : Tb) : Nat → Nat → Seg := fun t _ => match t with
  | 0 => ⟨T.w.length, 10, [.int .u8 T.w, .int .i16 T.t, .bool T.it.im, .int .i64 T.it.tm, .int .u32 T.it.ky, .int .i64 T.it.rt, .int .i64 T.it.vl, .int .u8 T.it.sd, .bool T.it.er, .bool T.it.lt]⟩
  | _ => ⟨T.st.length, 1, [.int .i16 T.st]⟩
def okT (T : Tb) : Bool := decide (T.t.length = T.w.length) && lensI T.it T.w.length

def cls (T : Tb) (i : Nat) : Int := Int.tmod (T.w.getD i 0) 8
def isRec (T : Tb) (i : Nat) : Bool := decide (cls T i = 0) || (decide (cls T i = 1) || (decide (cls T i = 2) || decide (cls T i = 3)))
def isMk (T : Tb) (i : Nat) : Bool := decide (cls T i = 4) || decide (cls T i = 5)
def dIm (T : Tb) (i : Nat) : Bool := if isRec T i = true then false else if (isMk T i || decide (cls T i = 6)) = true then true else T.it.im.getD i false
def dTm (T : Tb) (i : Nat) : Int := if isRec T i = true then T.it.tm.getD i 0 else if isMk T i = true then wr .i64 (T.t.getD i 0) else if cls T i = 6 then far else T.it.tm.getD i 0
def dRt (T : Tb) (i : Nat) : Int := if isRec T i = true then wr .i64 (T.t.getD i 0) else T.it.rt.getD i 0
def dIms (T : Tb) (k : Nat) : List Bool := (List.range k).map (dIm T)
def dTms (T : Tb) (k : Nat) : List Int := (List.range k).map (dTm T)
def dRts (T : Tb) (k : Nat) : List Int := (List.range k).map (dRt T)
def firstI (l : List Int) (k : Nat) : List Int := (List.range k).map fun i => l.getD i 0
def firstB (l : List Bool) (k : Nat) : List Bool := (List.range k).map fun i => l.getD i false
def draft (T : Tb) (k : Nat) : Items := ⟨dIms T k, dTms T k, firstI T.it.ky k, dRts T k, firstI T.it.vl k, firstI T.it.sd k, firstB T.it.er k, firstB T.it.lt k⟩
def many (T : Tb) : Nat := min T.w.length 1002

/-- a slice that is taken: nil, or a table's -/
def okV (t m : Nat) : AVal → Bool
  | .nils => Nat.beq m 0
  | .slice (.ro t' 0 0 0) n none => Nat.beq t' t && decide (n = m)
  | _ => false

def noDr (T : Tb) (_ : AVal) : Bool := Nat.beq T.w.length 0
def vO (us : List AVal) (_ : List Blk) : Option AVal := match us with
  | [V] => some V
  | _ => none
def drD0 (T : Tb) : CDeal AVal := ⟨fun V => [V], fun _ => [], fun V => okV 0 T.w.length V && noDr T V, fun _ => .nils, fun _ => []⟩
def drD1 (T : Tb) : CDeal AVal := ⟨fun V => [V], fun _ => [], fun V => okV 0 T.w.length V && !noDr T V, fun _ => sl 0 (many T), fun _ => [(draft T (many T)).blk]⟩
def drIns (V : AVal) : List (Nat × AVal) := [(0, V), (3, .nils), (4, .int .i64 0)]
def drL0 (T : Tb) : Deal AVal := ⟨drIns, fun _ => [], fun V => okV 0 T.w.length V && noDr T V, fun _ => .exit 0, fun _ => [(3, .nils)], fun _ => []⟩
def drL1 (T : Tb) : Deal AVal := ⟨drIns, fun _ => [], fun V => okV 0 T.w.length V && !noDr T V, fun _ => .exit 0, fun _ => [(3, sl 0 (many T))], fun _ => [(draft T (many T)).blk]⟩
def LD (T : Tb) : Loops := sumL 8 [false, true, false, true, true] (loop2G 58 (drL0 T) (drL1 T) (noDr T) [0] vO) noL

/-- a source is made -/
structure Nw where
  full : Bool
  it : Items
  m : Nat
  late : Int
def Nw.args (x : Nw) : List AVal := [match x.full with
    | true => sl 0 x.m
    | false => .nils, .int .i64 x.late]
def Nw.blks (x : Nw) : List Blk := match x.full with
  | true => [x.it.blk]
  | false => []
def nwO (us : List AVal) (Bs : List Blk) : Option Nw := match us with
  | [.nils, .int _ late] => some ⟨false, .none, 0, late⟩
  | [.slice _ m _, .int _ late] => match Bs with
    | [I] => match itemsOf I with
      | some it => some ⟨true, it, m, late⟩
      | none => none
    | _ => none
  | _ => none
def okNw (x : Nw) : Bool := lensI x.it x.it.im.length && (decide (x.m ≤ x.it.im.length) && match x.full with
  | true => decide (0 < x.m)
  | false => Nat.beq x.m 0)
def badNw (x : Nw) : Bool := decide (1000 < x.m) || (decide (x.late < 0) || decide (1073741824 < x.late))
def Nw.y (x : Nw) : Sr := ⟨x.it.take x.m, x.late, 0, 0, false⟩
def newBad : CDeal Nw := ⟨Nw.args, Nw.blks, fun x => okNw x && badNw x, fun _ => .nilp, Nw.blks⟩
def newNil : CDeal Nw := ⟨Nw.args, Nw.blks, fun x => okNw x && (!badNw x && !x.full), fun _ => .ptr (.own 0 0 0 0), fun x => [x.y.cells .nils]⟩
def newFull : CDeal Nw := ⟨Nw.args, Nw.blks, fun x => okNw x && (!badNw x && x.full), fun _ => .ptr (.own 2 0 0 0), fun x => [x.it.blk, (x.it.take x.m).blk, x.y.cells (sl 1 x.m)]⟩
def rnewNil : CDeal Nw := ⟨Nw.args, Nw.blks, fun x => okNw x && (!badNw x && !x.full), fun _ => .ptr (.own 1 0 0 0), fun x => [zBlk, x.y.cells (zl 0)]⟩

def S2 : Sums := sumF 12 (callG rseekD srcK) (sumF 11 (callG seekD srcK) (sumF 19 (callG overD src1) (sumF 18 (callG placeD src1) (sumF 17 (callG frontD src1) S1))))
def S3 (T : Tb) : Sums := sumF 16 (callG trueD fun _ _ => some ()) (sumF 8 (callNG [(noDr T, drD0 T)] (drD1 T) vO) (sumF 10 (callNG [(badNw, newBad), (Nw.full, newFull)] rnewNil nwO) (sumF 9 (callNG [(badNw, newBad), (Nw.full, newFull)] newNil nwO) S2)))

end Go.Proofs.Ytbpcfjhnkjobaaa
