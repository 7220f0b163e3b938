/- oper: the document's Apply, and what the laws take: contracts. -/
import Derived.Test.YtbfebjmmpiffpaaD04s
namespace Go.Proofs.Ytbfebjmmpiffpaa
open Ab

/-- the document's: what an operator makes of a record -/
structure Or where
  x : Op4
  r : Rc
def rcB (r : Rc) : Bool := inZ r.key 0 4294967295 && inZ r.val (-9223372036854775808) 9223372036854775807
def oneF (x : Op4) (r : Rc) : List Rc := if doesB x = true then makes x r else [r]
def Or.res (y : Or) : List Rc := oneF y.x y.r
def Or.none (y : Or) : Bool := y.res.isEmpty
def Or.cap (y : Or) : Option Nat := if y.r.err = true ∨ y.r.late = true ∨ doesB y.x = false ∨ y.x.k = 0 ∨ y.x.k = 1 then some 1 else Option.none
def orO (us : List AVal) (_ : List Blk) : Option Or := match us with
  | [.agg [.int _ k, .int _ a, .int _ b, .int _ g], .agg [.int _ ky, .int _ t, .int _ v, .int _ s, .bool e, .bool l]] => some ⟨⟨k, a, b, g⟩, ⟨ky, t, v, s, e, l⟩⟩
  | _ => Option.none
def orNone : CDeal Or := ⟨fun y => [y.x.v, y.r.v], fun _ => [], fun y => rcB y.r && y.none, fun _ => .nils, fun _ => []⟩
def orSome : CDeal Or := ⟨fun y => [y.x.v, y.r.v], fun _ => [], fun y => rcB y.r && !y.none, fun y => .slice (.own 0 0 0 6) y.res.length y.cap, fun y => [(Rs.of y.res).blk]⟩
def SR : Sums := sumF 22 (callNG [(Or.none, orNone)] orSome orO) noS

def opAt (o : Os) (i : Int) : Op4 := ⟨o.kk.getD i.toNat 0, o.aa.getD i.toNat 0, o.bb.getD i.toNat 0, o.gg.getD i.toNat 0⟩
def madeR (x : Op4) (L : Rs) : List Rc := (toL L).flatMap (oneF x)
def allB (L : Rs) : Bool := (toL L).all rcB
/-- its inner loop -/
structure Ri where
  o : Os
  c : Option Nat
  i : Int
  full : Bool
  L : Rs
  d : Option Nat
def Ri.V (x : Ri) : AVal := .slice (.own 0 0 0 4) x.o.kk.length x.c
def Ri.lV (x : Ri) : AVal := match x.full with
  | true => .slice (.own 1 0 0 6) x.L.ks.length x.d
  | false => .nils
def Ri.lB (x : Ri) : List Blk := match x.full with
  | true => [x.L.blk]
  | false => []
def Ri.at (x : Ri) (V : AVal) (j : Int) : List (Nat × AVal) := [(0, x.V), (5, x.lV), (6, .int .i64 x.i), (7, V), (8, .int .i64 j)]
def riO (us : List AVal) (Bs : List Blk) : Option Ri := match us with
  | .slice _ _ c :: l :: .int _ i :: _ => match l with
    | .slice _ _ d => match Bs with
      | [O, L] => match osOf O, rsOf L with
        | some o, some L => some ⟨o, c, i, true, L, d⟩
        | _, _ => none
      | _ => none
    | _ => match Bs with
      | [O] => match osOf O with
        | some o => some ⟨o, c, i, false, Rs.none, none⟩
        | none => none
      | _ => none
  | _ => none
def someR (x : Op4) (L y : Rs) : Prop := y = Rs.of (madeR x L) ∧ madeR x L ≠ []
def noneR (x : Op4) (L : Rs) : Prop := madeR x L = []
def riD : RDeal Ri where
  ins x := x.at .nils 0
  blks x := x.o.blk :: x.lB
  pre x := okL x.full x.L && (allB x.L && (lensO x.o && (decide (0 ≤ x.i) && decide (x.i < x.o.kk.length))))
  alts := [⟨Unit, .exit 2, fun x _ => noneR (opAt x.o x.i) x.L, fun x _ => [(0, x.V), (6, .int .i64 x.i), (7, .nils)], fun x _ => [x.o.blk]⟩,
    ⟨Rs, .exit 2, fun x y => someR (opAt x.o x.i) x.L y, fun x y => [(0, x.V), (6, .int .i64 x.i), (7, .slice (.own 1 0 0 6) y.ks.length none)], fun x y => [x.o.blk, y.blk]⟩]
def r2 : List Bool := [false, true, false, true, false, false, true, false, false, true, false, true, true]
def TRi : Tolds := sumT 16 r2 (toldR 36 riD [0, 5, 6, 7, 8] riO) noT
/-- its outer loop -/
def Ri.ot (x : Ri) : List (Nat × AVal) := [(0, x.V), (5, x.lV), (6, .int .i64 x.i)]
def rcapF (o : Os) : Option Nat := if o.kk.length = 0 then some 1 else none
def roSome (o : Os) (L : Rs) (y : Yc) : Prop := y.y = Rs.of (appL o L) ∧ appL o L ≠ [] ∧ y.c = rcapF o
def roD : RDeal Ri where
  ins x := x.ot
  blks x := x.o.blk :: x.lB
  pre x := decide (x.L.ks.length = 1) && (lensR x.L && (x.full && (allB x.L && (lensO x.o && (decide (x.o.kk.length ≤ 12) && decide (x.i = 0))))))
  alts := [⟨Unit, .exit 0, fun x _ => loNone x.o x.L, fun _ _ => [(5, .nils)], fun x _ => [x.o.blk]⟩,
    ⟨Yc, .exit 0, fun x y => roSome x.o x.L y, fun _ y => [(5, .slice (.own 1 0 0 6) y.y.ks.length y.c)], fun x y => [x.o.blk, y.y.blk]⟩]
/-- the loop's capacity at first is one -/
def roB (x : Ri) : Bool := sameCap x.d (some 1)
def TRo : Tolds := sumT 16 pO (toldR 36 { roD with pre := fun x => roB x && roD.pre x } [0, 5, 6] riO) noT

def Ap.rcap (x : Ap) : Option Nat := rcapF x.o
/-- the document's is not asked with none, not nil -/
def rapB (x : Ap) : Bool := x.full || x.c.isNone
def rapNone : CDeal Ap := ⟨fun x => [x.V, x.r.v], Ap.blks, fun x => (rapB x && (okAp x && rcB x.r)) && x.none, fun _ => .nils, Ap.blks⟩
def rapSome : CDeal Ap := ⟨fun x => [x.V, x.r.v], Ap.blks, fun x => (rapB x && (okAp x && rcB x.r)) && !x.none, fun x => match x.full with
  | true => .slice (.own 1 0 0 6) x.res.length x.rcap
  | false => .slice (.own 0 0 0 6) x.res.length x.rcap, fun x => x.blks ++ [(Rs.of x.res).blk]⟩

/-- both lists alike -/
structure Sm where
  full : Bool
  L : Rs
  c : Option Nat
  d : Option Nat
def Sm.args (x : Sm) : List AVal := match x.full with
  | true => [.slice (.own 0 0 0 6) x.L.ks.length x.c, .slice (.own 1 0 0 6) x.L.ks.length x.d]
  | false => [.nils, .nils]
def Sm.blks (x : Sm) : List Blk := match x.full with
  | true => [x.L.blk, x.L.blk]
  | false => []
def smO (us : List AVal) (Bs : List Blk) : Option Sm := match us with
  | [.slice _ _ c, .slice _ _ d] => match Bs with
    | L :: _ => match rsOf L with
      | some L => some ⟨true, L, c, d⟩
      | none => none
    | _ => none
  | [.nils, .nils] => some ⟨false, Rs.none, none, none⟩
  | _ => none
def smD : CDeal Sm := ⟨Sm.args, Sm.blks, fun x => decide (x.L.ks.length ≤ 1000000) && lensR x.L, fun _ => .bool true, Sm.blks⟩

def Sm.at (x : Sm) (i : Int) : List (Nat × AVal) := [(0, .slice (.own 0 0 0 6) x.L.ks.length x.c), (1, .slice (.own 1 0 0 6) x.L.ks.length x.d), (5, .int .i64 i)]
def smL : RDeal Sm where
  ins x := x.at 0
  blks x := [x.L.blk, x.L.blk]
  pre x := decide (x.L.ks.length ≤ 1000000) && lensR x.L
  alts := [⟨Unit, .exit 0, fun _ _ => True, fun _ _ => [], fun x _ => [x.L.blk, x.L.blk]⟩]
def smLO (us : List AVal) (Bs : List Blk) : Option Sm := match us with
  | [a, b, _] => smO [a, b] Bs
  | _ => none
def TSm : Tolds := sumT 17 pO (toldR 26 smL [0, 1, 5] smLO) noT

/-! ### Drafts -/

structure Ds where
  w : List Int
  a : List Int
  b : List Int
  g : List Int
  o : List Bool
def Ds.seg (x : Ds) : Seg := ⟨x.w.length, 5, [.int .u8 x.w, .int .i64 x.a, .int .i64 x.b, .int .u8 x.g, .bool x.o]⟩
structure Tb where
  l : Ds
  m : Ds
def tabOf (T : Tb) : Nat → Ds
  | 0 => T.l
  | _ => T.m
def tabT (T : Tb) : Nat → Nat → Seg := fun t _ => (tabOf T t).seg
def lensD (x : Ds) : Bool := decide (x.a.length = x.w.length) && (decide (x.b.length = x.w.length) && (decide (x.g.length = x.w.length) && decide (x.o.length = x.w.length)))
def drAt (x : Ds) (i : Int) : Dr := ⟨x.w.getD i.toNat 0, x.a.getD i.toNat 0, x.b.getD i.toNat 0, x.g.getD i.toNat 0, x.o.getD i.toNat false⟩
def most (x : Ds) : Nat := min x.w.length 6
def opsL (x : Ds) : List Op4 := (List.range (most x)).map fun i => drO (drAt x (i : Nat))
structure Oz where
  t : Nat
  full : Bool
  n : Nat
def Oz.V (x : Oz) : AVal := match x.full with
  | true => .slice (.ro x.t 0 0 0) x.n none
  | false => .nils
def ozO (us : List AVal) (_ : List Blk) : Option Oz := match us with
  | [.slice (.ro t _ _ _) n _] => some ⟨t, true, n⟩
  | [.nils] => some ⟨0, false, 0⟩
  | _ => none
def okOz (T : Tb) (x : Oz) : Bool := match x.full with
  | true => decide (x.n = (tabOf T x.t).w.length)
  | false => true
def ozB (T : Tb) (x : Oz) : Bool := match x.full with
  | true => decide ((tabOf T x.t).w.length = 0)
  | false => true
def ozNone (T : Tb) : CDeal Oz := ⟨fun x => [x.V], fun _ => [], fun x => okOz T x && ozB T x, fun _ => .nils, fun _ => []⟩
def ozSome (T : Tb) : CDeal Oz := ⟨fun x => [x.V], fun _ => [], fun x => okOz T x && !ozB T x, fun x => .slice (.own 0 0 0 4) (opsL (tabOf T x.t)).length none, fun x => [(Os.of (opsL (tabOf T x.t))).blk]⟩
/-- its loop -/
def osV (o : Bool) (n : Nat) : AVal := match o with
  | true => .slice (.own 0 0 0 4) n none
  | false => .nils
def osB (o : Bool) (x : Os) : List Blk := match o with
  | true => [x.blk]
  | false => []
def Oz.at (x : Oz) (V : AVal) (i : Int) : List (Nat × AVal) := [(0, .slice (.ro x.t 0 0 0) x.n none), (3, V), (4, .int .i64 i)]
def ozL (T : Tb) : RDeal Oz where
  ins x := x.at .nils 0
  blks _ := []
  pre x := x.full && okOz T x
  alts := [⟨Unit, .exit 0, fun x _ => ozB T x = true, fun _ _ => [(3, .nils)], fun _ _ => []⟩,
    ⟨Unit, .exit 0, fun x _ => ozB T x = false, fun x _ => [(3, .slice (.own 0 0 0 4) (opsL (tabOf T x.t)).length none)], fun x _ => [(Os.of (opsL (tabOf T x.t))).blk]⟩]
def ozLO (us : List AVal) (Bs : List Blk) : Option Oz := match us with
  | [a, _, _] => ozO [a] Bs
  | _ => none
def TZ (T : Tb) : Tolds := sumT 14 pO (toldR 24 (ozL T) [0, 3, 4] ozLO) noT
def SZ : Sums := sumF 8 (callG drD dr1) noS

def S4 (T : Tb) : Sums := sumF 14 (callNG [(ozB T, ozNone T)] (ozSome T) ozO) (sumF 17 (callG smD smO) (sumF 16 (callNG [(Ap.none, rapNone)] rapSome apO) S3))
def S5 (T : Tb) : Sums := sumF 14 (callNG [(ozB T, ozNone T)] (ozSome T) ozO) S3

end Go.Proofs.Ytbfebjmmpiffpaa
