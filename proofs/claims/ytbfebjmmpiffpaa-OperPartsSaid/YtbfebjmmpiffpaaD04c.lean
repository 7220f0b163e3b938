/- oper: Apply, in pieces: contracts. -/
import Derived.Test.YtbfebjmmpiffpaaD04b
namespace Go.Proofs.Ytbfebjmmpiffpaa
open Ab

def lensR (x : Rs) : Bool := decide (x.ts.length = x.ks.length) && (decide (x.vs.length = x.ks.length) && (decide (x.ss.length = x.ks.length) && (decide (x.es.length = x.ks.length) && decide (x.ls.length = x.ks.length))))
def toL (x : Rs) : List Rc := (List.range x.ks.length).map fun i => ⟨x.ks.getD i 0, x.ts.getD i 0, x.vs.getD i 0, x.ss.getD i 0, x.es.getD i false, x.ls.getD i false⟩
def lensO (x : Os) : Bool := decide (x.aa.length = x.kk.length) && (decide (x.bb.length = x.kk.length) && decide (x.gg.length = x.kk.length))
def toO (x : Os) : List Op4 := (List.range x.kk.length).map fun i => ⟨x.kk.getD i 0, x.aa.getD i 0, x.bb.getD i 0, x.gg.getD i 0⟩
def made (x : Op4) (L : Rs) : List Rc := (toL L).flatMap (makes x)

/-- the inner loop -/
structure In where
  x : Op4
  f : Fr
  full : Bool
  L : Rs
  c : Option Nat
def In.rd (x : In) : Rd := ⟨x.x, x.f, x.full, [], x.c⟩
def someP (x : Op4) (L y : Rs) : Prop := y = Rs.of (made x L) ∧ made x L ≠ []
def noneP (x : Op4) (L : Rs) : Prop := made x L = []
def frO (V n i : AVal) (B : Blk) : Option Fr := match V, n, i, osOf B with
  | .slice _ _ c, .int _ n, .int _ i, some o => some ⟨o, c, n, i⟩
  | _, _, _, _ => none
def capV : AVal → Option Nat
  | .slice _ _ c => c
  | _ => none
def inO (us : List AVal) (Bs : List Blk) : Option In := match us with
  | [_, _, _, V, n, i, l, _, _] => match Bs with
    | [O, X, _, L] => match opOf X, frO V n i O, rsOf L with
      | some x, some f, some L => some ⟨x, f, true, L, capV l⟩
      | _, _, _ => none
    | [O, X, _] => match opOf X, frO V n i O with
      | some x, some f => some ⟨x, f, false, Rs.none, none⟩
      | _, _ => none
    | _ => none
  | _ => none
def okL (full : Bool) (L : Rs) : Bool := lensR L && (decide (L.ks.length ≤ 1000000) && match full with
  | true => decide (0 < L.ks.length)
  | false => decide (L.ks.length = 0))
def inD : RDeal In where
  ins x := x.rd.at x.L x.L.ks.length 0
  blks x := x.rd.blks x.L 4 false Rs.none
  pre x := doesB x.x && okL x.full x.L
  alts := [⟨Unit, .exit 2, fun x _ => noneP x.x x.L, fun x _ => (9, .ptr (.own 1 0 0 0)) :: x.f.ts 0, fun x _ => [x.f.o.blk, cellB .nils]⟩,
    ⟨Rs, .exit 2, fun x y => someP x.x x.L y, fun x _ => (9, .ptr (.own 1 0 0 0)) :: x.f.ts 0, fun x y => [x.f.o.blk, cellB (.slice (.own 2 0 0 6) y.ks.length none), y.blk]⟩]
def q2 : List Bool := [false, true, false, true, true, true, true, false, false, true, true, false, false, true, false, true, true]
def TI : Tolds := sumT 15 q2 (toldR 63 inD [7, 8, 9, 15, 16, 17, 34, 35, 36] inO) noT

/-- one operator -/
def In.lV (x : In) : AVal := match x.full with
  | true => .slice (.own 1 0 0 6) x.L.ks.length x.c
  | false => .nils
def In.lB (x : In) : List Blk := match x.full with
  | true => [x.L.blk]
  | false => []
def In.pts (x : In) : List (Nat × AVal) := [(5, x.lV), (7, match x.full with
  | true => .ptr (.own 2 0 0 0)
  | false => .ptr (.own 1 0 0 0))] ++ x.f.ts 0
def pcO (us : List AVal) (Bs : List Blk) : Option In := match us with
  | [l, _, V, n, i] => match Bs with
    | [O, L, X] => match opOf X, frO V n i O, rsOf L with
      | some x, some f, some L => some ⟨x, f, true, L, capV l⟩
      | _, _, _ => none
    | [O, X] => match opOf X, frO V n i O with
      | some x, some f => some ⟨x, f, false, Rs.none, none⟩
      | _, _ => none
    | _ => none
  | _ => none
def skipP (x : Op4) : Prop := doesB x = false
def doesNone (x : Op4) (L : Rs) : Prop := doesB x = true ∧ noneP x L
def doesSome (x : Op4) (L y : Rs) : Prop := doesB x = true ∧ someP x L y
def pcD : RDeal In where
  ins := In.pts
  blks x := x.f.o.blk :: (x.lB ++ [x.x.cells])
  pre x := okL x.full x.L
  alts := [⟨Unit, .exit 1, fun x _ => skipP x.x, fun x _ => (5, x.lV) :: x.f.ts 0, fun x _ => x.f.o.blk :: x.lB⟩,
    ⟨Unit, .normal, fun x _ => doesNone x.x x.L, fun x _ => (5, .nils) :: x.f.ts 0, fun x _ => [x.f.o.blk]⟩,
    ⟨Rs, .normal, fun x y => doesSome x.x x.L y, fun x y => (5, .slice (.own 1 0 0 6) y.ks.length none) :: x.f.ts 0, fun x y => [x.f.o.blk, y.blk]⟩]
def pB : List Bool := [true, false, false, true, true, false, false, true, false, true, true]
def TB : Tolds := sumT 15 pB (toldR 63 pcD [5, 7, 15, 16, 17] pcO) noT

/-- the operators, one behind the other -/
def In.ots (x : In) : List (Nat × AVal) := (5, x.lV) :: x.f.ts 0
def In.oB (x : In) : List Blk := x.f.o.blk :: x.lB
structure Lo where
  r : Rs
  f : Fr
def Lo.in (x : Lo) : In := ⟨⟨0, 0, 0, 0⟩, x.f, true, x.r, some 1⟩
def loO (us : List AVal) (Bs : List Blk) : Option Lo := match us with
  | [_, V, n, i] => match Bs with
    | [O, L] => match frO V n i O, rsOf L with
      | some f, some L => some ⟨L, f⟩
      | _, _ => none
    | _ => none
  | _ => none
def appL (o : Os) (L : Rs) : List Rc := (toO o).foldl (fun l x => step x l) (toL L)
def capF (o : Os) : Option Nat := if (toO o).any doesB = true then none else some 1
def loNone (o : Os) (L : Rs) : Prop := appL o L = []
structure Yc where
  y : Rs
  c : Option Nat
def loSome (o : Os) (L : Rs) (y : Yc) : Prop := y.y = Rs.of (appL o L) ∧ appL o L ≠ [] ∧ y.c = capF o
def loD : RDeal Lo where
  ins x := x.in.ots
  blks x := x.in.oB
  pre x := decide (x.r.ks.length = 1) && (lensR x.r && (lensO x.f.o && (decide (x.f.o.kk.length ≤ 12) && (decide (x.f.n = x.f.o.kk.length) && decide (x.f.i = 0)))))
  alts := [⟨Unit, .exit 0, fun x _ => loNone x.f.o x.r, fun _ _ => [(5, .nils)], fun x _ => [x.f.o.blk]⟩,
    ⟨Yc, .exit 0, fun x y => loSome x.f.o x.r y, fun _ y => [(5, .slice (.own 1 0 0 6) y.y.ks.length y.c)], fun x y => [x.f.o.blk, y.y.blk]⟩]
def pO : List Bool := [false, true, false, true, true]
def TO : Tolds := sumT 15 pO (toldR 63 loD [5, 15, 16, 17] loO) noT

/-- Apply -/
structure Ap where
  full : Bool
  o : Os
  c : Option Nat
  r : Rc
/-- no operators, not nil -/
def zBlk4 : Blk := .segs [⟨0, 4, [.val [], .val [], .val [], .val []]⟩]
def Ap.V (x : Ap) : AVal := match x.full with
  | true => .slice (.own 0 0 0 4) x.o.kk.length x.c
  | false => match x.c with
    | none => .nils
    | some _ => .slice (.own 0 0 0 4) 0 (some 0)
def Ap.blks (x : Ap) : List Blk := match x.full with
  | true => [x.o.blk]
  | false => match x.c with
    | none => []
    | some _ => [zBlk4]
def Ap.res (x : Ap) : List Rc := (toO x.o).foldl (fun l x => step x l) [x.r]
def Ap.none (x : Ap) : Bool := x.res.isEmpty
def Ap.cap (x : Ap) : Option Nat := capF x.o
def okAp (x : Ap) : Bool := lensO x.o && (decide (x.o.kk.length ≤ 12) && match x.full with
  | true => true
  | false => decide (x.o.kk.length = 0))
def apO (us : List AVal) (Bs : List Blk) : Option Ap := match us with
  | [.slice _ _ c, .agg [.int _ k, .int _ t, .int _ v, .int _ s, .bool e, .bool l]] => match Bs with
    | [O] => match osOf O with
      | some o => some ⟨true, o, c, ⟨k, t, v, s, e, l⟩⟩
      | Option.none => some ⟨false, Os.none, some 0, ⟨k, t, v, s, e, l⟩⟩
    | _ => Option.none
  | [.nils, .agg [.int _ k, .int _ t, .int _ v, .int _ s, .bool e, .bool l]] => some ⟨false, Os.none, Option.none, ⟨k, t, v, s, e, l⟩⟩
  | _ => Option.none
def apNone : CDeal Ap := ⟨fun x => [x.V, x.r.v], Ap.blks, fun x => okAp x && x.none, fun _ => .nils, Ap.blks⟩
def apSome : CDeal Ap := ⟨fun x => [x.V, x.r.v], Ap.blks, fun x => okAp x && !x.none, fun x => match x.full with
  | true => .slice (.own 1 0 0 6) x.res.length x.cap
  | false => match x.c with
    | none => .slice (.own 0 0 0 6) x.res.length x.cap
    | some _ => .slice (.own 1 0 0 6) x.res.length x.cap, fun x => x.blks ++ [(Rs.of x.res).blk]⟩

end Go.Proofs.Ytbfebjmmpiffpaa
