/- oper: OperParts: contracts. -/
import Derived.Test.YtbfebjmmpiffpaaD04e
namespace Go.Proofs.Ytbfebjmmpiffpaa
open Ab

def os1 (f : Bool) (j : Nat) (o : Os) : AVal := match f with
  | true => .slice (.own j 0 0 4) o.kk.length none
  | false => .nils
def rs1 (f : Bool) (j : Nat) (l : Rs) (c : Option Nat) : AVal := match f with
  | true => .slice (.own j 0 0 6) l.ks.length c
  | false => .nils
def rsB (f : Bool) (l : Rs) : List Blk := match f with
  | true => [l.blk]
  | false => []
/-- the next one of the blocks, if it is one -/
def takeO {α : Type} (V : AVal) (Bs : List Blk) (k : Bool → Os → List Blk → Option α) : Option α := match V with
  | .slice _ _ _ => match Bs with
    | O :: Bs => match osOf O with
      | some o => k true o Bs
      | none => k false Os.none Bs
    | _ => none
  | _ => k false Os.none Bs
def takeR {α : Type} (V : AVal) (Bs : List Blk) (k : Bool → Rs → Option Nat → List Blk → Option α) : Option α := match V with
  | .slice _ _ c => match Bs with
    | L :: Bs => match rsOf L with
      | some l => k true l c Bs
      | none => none
    | _ => none
  | _ => k false Rs.none none Bs

/-- the parts, one behind the other -/
structure P0 where
  r : Rc
  af : Bool
  a : Os
  bf : Bool
  b : Os
  wf : Bool
  w : Rs
  wc : Option Nat
  sf : Bool
  l : Rs
  sc : Option Nat
def P0.fr (x : P0) : List (Nat × AVal) := [(5, .ptr (.own 0 0 0 0)), (7, os1 x.af 1 x.a), (8, os1 x.bf (1 + cond x.af 1 0) x.b), (9, rs1 x.wf (1 + cond x.af 1 0 + cond x.bf 1 0) x.w x.wc)]
def P0.id (x : P0) : Nat := 1 + cond x.af 1 0 + cond x.bf 1 0 + cond x.wf 1 0
def P0.at (x : P0) (of : Bool) (V : AVal) (i : Int) : List (Nat × AVal) := x.fr ++ [(10, V), (11, rs1 x.sf (1 + cond x.af 1 0 + cond x.bf 1 0 + cond x.wf 1 0 + cond of 1 0) x.l x.sc), (12, .int .i64 i)]
def P0.fB (x : P0) : List Blk := x.r.cells :: (osB x.af x.a ++ (osB x.bf x.b ++ rsB x.wf x.w))
def P0.blks (x : P0) (of : Bool) (o : Rs) : List Blk := x.fB ++ (rsB of o ++ rsB x.sf x.l)
def p0O (us : List AVal) (Bs : List Blk) : Option P0 := match us, Bs with
  | [_, A, B, W, _, S, _], R :: Bs => match rcOf R with
    | some r => takeO A Bs fun af a Bs => takeO B Bs fun bf b Bs => takeR W Bs fun wf w wc Bs => takeR S Bs fun sf l sc _ => some ⟨r, af, a, bf, b, wf, w, wc, sf, l, sc⟩
    | none => none
  | _, _ => none
def partsL (b : Os) (l : Rs) : List Rc := (toL l).flatMap fun r => (toO b).foldl (fun l x => step x l) [r]
def ok0 (x : P0) : Bool := okL x.sf x.l && (decide (x.l.ks.length ≤ 729) && (lensO x.b && (decide (x.b.kk.length ≤ 6) && (x.bf || decide (x.b.kk.length = 0)))))
def none0 (b : Os) (l : Rs) : Prop := partsL b l = []
def some0 (b : Os) (l y : Rs) : Prop := y = Rs.of (partsL b l) ∧ partsL b l ≠ []
def p0D : RDeal P0 where
  ins x := x.at false .nils 0
  blks x := x.blks false Rs.none
  pre := ok0
  alts := [⟨Unit, .exit 0, fun x _ => none0 x.b x.l, fun x _ => x.fr ++ [(10, .nils)], fun x _ => x.fB⟩,
    ⟨Rs, .exit 0, fun x y => some0 x.b x.l y, fun x y => x.fr ++ [(10, .slice (.own (1 + cond x.af 1 0 + cond x.bf 1 0 + cond x.wf 1 0) 0 0 6) y.ks.length none)], fun x y => x.fB ++ [y.blk]⟩]
def g0 : List Bool := [false, true, false, true, true, true, true, true, true]

/-- how many there may be -/
structure P2 where
  r : Rc
  wf : Bool
  w : Rs
  wc : Option Nat
  pf : Bool
  p : Rs
  zf : Bool
  o : Os
def P2.fr (x : P2) : List (Nat × AVal) := [(5, .ptr (.own 0 0 0 0)), (9, rs1 x.wf 1 x.w x.wc), (10, rs1 x.pf (1 + cond x.wf 1 0) x.p none)]
def P2.fB (x : P2) : List Blk := x.r.cells :: (rsB x.wf x.w ++ rsB x.pf x.p)
def P2.zV (x : P2) : AVal := match x.zf with
  | true => .slice (.own (1 + cond x.wf 1 0 + cond x.pf 1 0) 0 0 4) x.o.kk.length none
  | false => .slice (.own (1 + cond x.wf 1 0 + cond x.pf 1 0) 0 0 4) 0 (some 0)
def P2.zB (x : P2) : List Blk := match x.zf with
  | true => [x.o.blk]
  | false => [zBlk4]
def P2.at (x : P2) (m i : Int) : List (Nat × AVal) := x.fr ++ [(13, .int .i64 m), (14, x.zV), (15, .int .i64 i)]
def p2O (us : List AVal) (Bs : List Blk) : Option P2 := match us, Bs with
  | [_, W, P, _, Z, _], R :: Bs => match rcOf R with
    | some r => takeR W Bs fun wf w wc Bs => takeR P Bs fun pf p _ Bs => takeO Z Bs fun zf o _ => some ⟨r, wf, w, wc, pf, p, zf, o⟩
    | none => none
  | _, _ => none
def facOf (x : Op4) : Int := if x.k = 3 ∧ mayB x = true then x.a else 1
def mostI (l : List Op4) : Int := l.foldl (fun m x => m * facOf x) 1
def mostP (o : Os) (m : Int) : Prop := m = mostI (toO o)
def ok2 (x : P2) : Bool := decide (x.wf = x.pf) && (lensO x.o && (decide (x.o.kk.length ≤ 12) && (x.zf || decide (x.o.kk.length = 0))))
def p2D : RDeal P2 where
  ins x := x.at 1 0
  blks x := x.fB ++ x.zB
  pre := ok2
  alts := [⟨Int, .exit 2, fun x m => mostP x.o m, fun x m => x.fr ++ [(13, .int .i64 m)], fun x _ => x.fB⟩]
def g2 : List Bool := [false, true, false, true, true, true, true, true, true, true, true, true, true]

/-- each is the same one -/
structure P4 where
  r : Rc
  wf : Bool
  w : Rs
  wc : Option Nat
  pf : Bool
  p : Rs
  m : Int
def P4.fr (x : P4) : List (Nat × AVal) := [(5, .ptr (.own 0 0 0 0)), (9, rs1 x.wf 1 x.w x.wc), (13, .int .i64 x.m)]
def P4.at (x : P4) (i : Int) : List (Nat × AVal) := x.fr ++ [(10, rs1 x.pf (1 + cond x.wf 1 0) x.p none), (16, .int .i64 i)]
def P4.blks (x : P4) : List Blk := x.r.cells :: (rsB x.wf x.w ++ rsB x.pf x.p)
def p4O (us : List AVal) (Bs : List Blk) : Option P4 := match us, Bs with
  | [_, W, P, .int _ m, _], R :: Bs => match rcOf R with
    | some r => takeR W Bs fun wf w wc Bs => takeR P Bs fun pf p _ _ => some ⟨r, wf, w, wc, pf, p, m⟩
    | none => none
  | _, _ => none
def likeB (r x : Rc) : Bool := decide (x.time = r.time) && (decide (x.side = r.side) && (decide (x.err = r.err) && (decide (x.late = r.late) && (!(r.err || r.late) || (decide (x.key = r.key) && decide (x.val = r.val))))))
def sameR (a b : Rs) : Bool := decide (a.ks = b.ks) && (decide (a.ts = b.ts) && (decide (a.vs = b.vs) && (decide (a.ss = b.ss) && (decide (a.es = b.es) && decide (a.ls = b.ls)))))
def ok4p (x : P4) : Bool := decide (x.wf = x.pf) && (sameR x.w x.p && (okL x.wf x.w && (toL x.w).all (likeB x.r)))
def p4D : RDeal P4 where
  ins x := x.at 0
  blks := P4.blks
  pre := ok4p
  alts := [⟨Unit, .exit 4, fun _ _ => True, fun x _ => x.fr, fun x _ => x.r.cells :: rsB x.wf x.w⟩]
def g4 : List Bool := [false, true, false, true, true, true, true, true, true, true, true, true, true, true]
def TP : Tolds := sumT 5 g0 (toldR 161 p0D [5, 7, 8, 9, 10, 11, 12] p0O) (sumT 5 g2 (toldR 161 p2D [5, 9, 10, 13, 14, 15] p2O) (sumT 5 g4 (toldR 161 p4D [5, 9, 10, 13, 16] p4O) noT))

/-- the rest of the law, behind the operators -/
structure Pr where
  r : Rc
  af : Bool
  a : Os
  bf : Bool
  b : Os
def Pr.at (x : Pr) : List (Nat × AVal) := [(5, .ptr (.own 0 0 0 0)), (7, os1 x.af 1 x.a), (8, os1 x.bf (1 + cond x.af 1 0) x.b)]
def Pr.blks (x : Pr) : List Blk := x.r.cells :: (osB x.af x.a ++ osB x.bf x.b)
def prO (us : List AVal) (Bs : List Blk) : Option Pr := match us, Bs with
  | [_, A, B], R :: Bs => match rcOf R with
    | some r => takeO A Bs fun af a Bs => takeO B Bs fun bf b _ => some ⟨r, af, a, bf, b⟩
    | none => none
  | _, _ => none
def okO1 (f : Bool) (o : Os) : Bool := lensO o && (decide (o.kk.length ≤ 6) && match f with
  | true => decide (0 < o.kk.length)
  | false => decide (o.kk.length = 0))
def prD : RDeal Pr where
  ins := Pr.at
  blks := Pr.blks
  pre x := okO1 x.af x.a && okO1 x.bf x.b
  alts := [⟨Unit, .ret, fun _ _ => True, fun _ _ => [(6, .bool true)], fun _ _ => []⟩]
/-- all operators, one behind the other -/
def appW (a b : Os) (r : Rc) : List Rc := (toO a ++ toO b).foldl (fun l x => step x l) [r]
def noneW (a b : Os) (r : Rc) : Prop := appW a b r = []
def someW (a b : Os) (r : Rc) (y : Yc) : Prop := y.y = Rs.of (appW a b r) ∧ appW a b r ≠ []
def pwD : RDeal Pr where
  ins := Pr.at
  blks := Pr.blks
  pre x := okO1 x.af x.a && okO1 x.bf x.b
  alts := [⟨Unit, .normal, fun x _ => noneW x.a x.b x.r, fun x _ => x.at ++ [(9, .nils)], fun x _ => x.blks⟩,
    ⟨Yc, .normal, fun x y => someW x.a x.b x.r y, fun x y => x.at ++ [(9, .slice (.own (1 + cond x.af 1 0 + cond x.bf 1 0) 0 0 6) y.y.ks.length y.c)], fun x y => x.blks ++ [y.y.blk]⟩]
def gW : List Bool := [false, true, true, true]
/-- the operators once more -/
def Pr.bt (x : Pr) (W P : AVal) : List (Nat × AVal) := x.at ++ [(9, W), (10, P), (13, .int .i64 1)]
structure Pg where
  x : Pr
  wf : Bool
  w : Rs
  wc : Option Nat
  pf : Bool
  p : Rs
def Pg.wV (y : Pg) : AVal := rs1 y.wf (1 + cond y.x.af 1 0 + cond y.x.bf 1 0) y.w y.wc
def Pg.pV (y : Pg) : AVal := rs1 y.pf (1 + cond y.x.af 1 0 + cond y.x.bf 1 0 + cond y.wf 1 0) y.p none
def Pg.at (y : Pg) : List (Nat × AVal) := y.x.at ++ [(9, y.wV), (10, y.pV), (13, .int .i64 1)]
def Pg.blks (y : Pg) : List Blk := y.x.blks ++ (rsB y.wf y.w ++ rsB y.pf y.p)
def pgO (us : List AVal) (Bs : List Blk) : Option Pg := match us, Bs with
  | [_, A, B, W, P, _], R :: Bs => match rcOf R with
    | some r => takeO A Bs fun af a Bs => takeO B Bs fun bf b Bs => takeR W Bs fun wf w wc Bs => takeR P Bs fun pf p _ _ => some ⟨⟨r, af, a, bf, b⟩, wf, w, wc, pf, p⟩
    | none => none
  | _, _ => none
def Pg.p2 (y : Pg) (zf : Bool) (o : Os) : P2 := ⟨y.x.r, y.wf, y.w, y.wc, y.pf, y.p, zf, o⟩
def Pg.out (y : Pg) (zf : Bool) (o : Os) : List (Nat × AVal) := (y.p2 zf o).fr ++ [(13, .int .i64 1), (14, (y.p2 zf o).zV)]
def Pg.oB (y : Pg) (zf : Bool) (o : Os) : List Blk := (y.p2 zf o).fB ++ (y.p2 zf o).zB
def gNone (af bf : Bool) : Prop := af = false ∧ bf = false
def gSome (a b o : Os) : Prop := lensO o = true ∧ toO o = toO a ++ toO b
def pgD : RDeal Pg where
  ins := Pg.at
  blks := Pg.blks
  pre y := okO1 y.x.af y.x.a && (okO1 y.x.bf y.x.b && decide (y.wf = y.pf))
  alts := [⟨Unit, .normal, fun y _ => gNone y.x.af y.x.bf, fun y _ => y.out false Os.none, fun y _ => y.oB false Os.none⟩,
    ⟨Os, .normal, fun y o => gSome y.x.a y.x.b o, fun y o => y.out true o, fun y o => y.oB true o⟩]
def gG : List Bool := [false, true, true, true, true, true, true, true, true, true]
def TQ : Tolds := sumT 5 gW (toldR 161 pwD [5, 7, 8] prO) (sumT 5 gG (toldR 161 pgD [5, 7, 8, 9, 10, 13] pgO) TP)
def gR : List Bool := [true, true, true]
def TPr : Tolds := sumT 5 gR (toldR 161 prD [5, 7, 8] prO) noT

end Go.Proofs.Ytbfebjmmpiffpaa
