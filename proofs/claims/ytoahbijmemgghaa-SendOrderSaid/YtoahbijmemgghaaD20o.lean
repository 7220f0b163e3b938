/- send: SendOrder: the sender, the other end, what was sent; what holds of them; the pieces of its loops. -/
import Derived.Test.YtoahbijmemgghaaP20s
namespace Go.Proofs.Ytoahbijmemgghaa
open Ab

def tabC (a b : List Int) : Nat → Nat → Seg := fun _ _ => ⟨a.length, 2, [.int .u8 a, .int .u8 b]⟩

/-- the numbers from 0 on; from a number on -/
def rng (n : Nat) : List Int := (List.range n).map Int.ofNat
def seqs (b : Int) (n : Nat) : List Int := (List.range n).map fun j => b + Int.ofNat j

/-- what holds: so many rounds were, so many messages pushed; capacity; base, limit, those that wait; what was sent; the answers; what was taken; the next one, the queue -/
def inv (i p k b m : Int) (n : Nat) (l es an rs tk : List Int) (f q : Int) : Bool :=
  newOk k && (decide (p ≤ i) && (decide (i ≤ 300) && (decide (b + (n : Int) = p) && (decide ((n : Int) ≤ k) && (decide (l = seqs b n) && (decide (0 ≤ b) && (decide (b ≤ f) && (decide (f ≤ p) && (decide (0 ≤ q) && (decide (q ≤ k) &&
  (es.all (fun e => decide (0 ≤ e) && decide (e < p)) && (an.all (fun a => decide (0 ≤ a) && decide (a ≤ f)) && (rs.all (fun r => decide (0 ≤ r) && decide (r ≤ k)) && (decide (an.length = rs.length) && (decide ((an.length : Int) ≤ i) && (decide ((es.length : Int) ≤ i) && (decide (tk = rng f.toNat) && (decide (0 ≤ m) && decide (m ≤ 10000)))))))))))))))))))

/-- the other end's variable -/
def farB (f q : Int) (T A : AVal) : Blk := .segs [⟨1, 1, [.int .u64 [f]]⟩, ⟨1, 1, [.int .i64 [q]]⟩, ⟨1, 1, [.val [T]]⟩, ⟨1, 1, [.val [A]]⟩]
def elB (es : List Int) : Blk := .segs [⟨es.length, 1, [.int .u64 es]⟩]
def tkB (ts : List Int) : Blk := .segs [⟨ts.length, 1, [.int .i64 ts]⟩]
def anB (an rs : List Int) : Blk := .segs [⟨an.length, 2, [.int .u64 an, .int .u64 rs]⟩]

inductive Sv
  | s0 (k m : Int)
  | s1 (x : Sd)
  | s2 (x : Sd) (es : List Int)
  | s3 (x : Sd) (es an rs : List Int)
  | s4 (x : Sd) (es an rs tk : List Int) (f q : Int)
def Sv.bs : Sv → List Blk
  | .s0 k m => [zBlk k 0 m, farB 0 0 .nils .nils]
  | .s1 x => [x.blk 2, farB 0 0 .nils .nils, Qb x.ts]
  | .s2 x es => [x.blk 3, farB 0 0 .nils .nils, elB es, Qb x.ts]
  | .s3 x es an rs => [x.blk 3, farB 0 0 .nils (.slice (.own 4 0 0 2) an.length none), elB es, Qb x.ts, anB an rs]
  | .s4 x es an rs tk f q => [x.blk 3, farB f q (.slice (.own 4 0 0 1) tk.length none) (.slice (.own 5 0 0 2) an.length none), elB es, Qb x.ts, tkB tk, anB an rs]
def Sv.el : Sv → AVal
  | .s0 _ _ => .nils
  | .s1 _ => .nils
  | .s2 _ es => .slice (.own 2 0 0 1) es.length none
  | .s3 _ es _ _ => .slice (.own 2 0 0 1) es.length none
  | .s4 _ es _ _ _ _ _ => .slice (.own 2 0 0 1) es.length none
def Sv.ok (i p k : Int) : Sv → Bool
  | .s0 k' m => decide (k' = k) && inv i p k 0 m 0 [] [] [] [] [] 0 0
  | .s1 x => decide (x.k = k) && (okSd x && inv i p k x.b x.m x.n x.l [] [] [] [] 0 0)
  | .s2 x es => decide (x.k = k) && (okSd x && inv i p k x.b x.m x.n x.l es [] [] [] 0 0)
  | .s3 x es an rs => decide (x.k = k) && (okSd x && inv i p k x.b x.m x.n x.l es an rs [] 0 0)
  | .s4 x es an rs tk f q => decide (x.k = k) && (okSd x && inv i p k x.b x.m x.n x.l es an rs tk f q)

def estOf : Blk → Option (List Int)
  | .segs [⟨_, _, [.int _ es]⟩] => some es
  | _ => none
def anOf : Blk → Option (List Int × List Int)
  | .segs [⟨_, _, [.int _ an, .int _ rs]⟩] => some (an, rs)
  | _ => none
def stOf : List Blk → Option Sv
  | [S, _] => match sxOf [S] with
    | some (.z k _ m) => some (.s0 k m)
    | _ => none
  | [S, _, Q] => match sxOf [S, Q] with
    | some (.q x) => some (.s1 x)
    | _ => none
  | [S, _, E, Q] => match sxOf [S, Q], estOf E with
    | some (.q x), some es => some (.s2 x es)
    | _, _ => none
  | [S, _, E, Q, A] => match sxOf [S, Q], estOf E, anOf A with
    | some (.q x), some es, some (an, rs) => some (.s3 x es an rs)
    | _, _, _ => none
  | [S, .segs [⟨_, _, [.int _ [f]]⟩, ⟨_, _, [.int _ [q]]⟩, _, _], E, Q, T, A] => match sxOf [S, Q], estOf E, estOf T, anOf A with
    | some (.q x), some es, some tk, some (an, rs) => some (.s4 x es an rs tk f q)
    | _, _, _, _ => none
  | _ => none

/-- what a round keeps: the choices' number, capacity, how many are pushed, the round -/
structure Ks where
  v : Nat
  k : Int
  p : Int
  i : Int
def Ks.ins (y : Ks) (E : AVal) : List (Nat × AVal) := [(1, .slice (.ro 0 0 0 0) y.v none), (5, .int .i64 y.k), (6, .ptr (.own 0 0 0 0)), (7, .ptr (.own 1 0 0 0)), (8, .int .i64 y.p), (9, E), (10, .int .i64 y.i)]
structure Os where
  g : Ks
  s : Sv
  j : Int
  e : Int
def osO (us : List AVal) (Bs : List Blk) : Option Os := match us, stOf Bs with
  | [.slice _ v _, .int _ k, _, _, .int _ p, _, .int _ i], some s => some ⟨⟨v, k, p, i⟩, s, 0, 0⟩
  | [.slice _ v _, .int _ k, _, _, .int _ p, _, .int _ i, .int _ j], some s => some ⟨⟨v, k, p, i⟩, s, j, 0⟩
  | [.slice _ v _, .int _ k, _, _, .int _ p, _, .int _ i, .int _ j, .int _ e], some s => some ⟨⟨v, k, p, i⟩, s, j, e⟩
  | _, _ => none
structure A0 where
  p : Int
  k : Int
  m : Int
structure A1 where
  p : Int
  x : Sd
structure A2 where
  p : Int
  x : Sd
  es : List Int
structure A3 where
  p : Int
  x : Sd
  es : List Int
  an : List Int
  rs : List Int
structure A4 where
  p : Int
  x : Sd
  es : List Int
  an : List Int
  rs : List Int
  tk : List Int
  f : Int
  q : Int
def A0.s (a : A0) : Sv := .s0 a.k a.m
def A1.s (a : A1) : Sv := .s1 a.x
def A2.s (a : A2) : Sv := .s2 a.x a.es
def A3.s (a : A3) : Sv := .s3 a.x a.es a.an a.rs
def A4.s (a : A4) : Sv := .s4 a.x a.es a.an a.rs a.tk a.f a.q
def Ks.at (y : Ks) (p : Int) : Ks := { y with p := p }
/-- behind an arm -/
def altsO : List (RAlt Os) := [
  ⟨A0, .normal, fun y a => Sv.ok (y.g.i + 1) a.p y.g.k (.s0 a.k a.m) = true, fun y a => Ks.ins ⟨y.g.v, y.g.k, a.p, y.g.i⟩ .nils, fun _ a => [zBlk a.k 0 a.m, farB 0 0 .nils .nils]⟩,
  ⟨A1, .normal, fun y a => Sv.ok (y.g.i + 1) a.p y.g.k (.s1 a.x) = true, fun y a => Ks.ins ⟨y.g.v, y.g.k, a.p, y.g.i⟩ .nils, fun _ a => [a.x.blk 2, farB 0 0 .nils .nils, Qb a.x.ts]⟩,
  ⟨A2, .normal, fun y a => Sv.ok (y.g.i + 1) a.p y.g.k (.s2 a.x a.es) = true, fun y a => Ks.ins ⟨y.g.v, y.g.k, a.p, y.g.i⟩ (.slice (.own 2 0 0 1) a.es.length none), fun _ a => [a.x.blk 3, farB 0 0 .nils .nils, elB a.es, Qb a.x.ts]⟩,
  ⟨A3, .normal, fun y a => Sv.ok (y.g.i + 1) a.p y.g.k (.s3 a.x a.es a.an a.rs) = true, fun y a => Ks.ins ⟨y.g.v, y.g.k, a.p, y.g.i⟩ (.slice (.own 2 0 0 1) a.es.length none), fun _ a => [a.x.blk 3, farB 0 0 .nils (.slice (.own 4 0 0 2) a.an.length none), elB a.es, Qb a.x.ts, anB a.an a.rs]⟩,
  ⟨A4, .normal, fun y a => Sv.ok (y.g.i + 1) a.p y.g.k (.s4 a.x a.es a.an a.rs a.tk a.f a.q) = true, fun y a => Ks.ins ⟨y.g.v, y.g.k, a.p, y.g.i⟩ (.slice (.own 2 0 0 1) a.es.length none), fun _ a => [a.x.blk 3, farB a.f a.q (.slice (.own 4 0 0 1) a.tk.length none) (.slice (.own 5 0 0 2) a.an.length none), elB a.es, Qb a.x.ts, tkB a.tk, anB a.an a.rs]⟩]
def okG (a : List Int) (y : Os) : Bool := y.s.ok y.g.i y.g.p y.g.k && (decide (0 ≤ y.g.i) && (decide (y.g.i < 200) && (decide (y.g.i < y.g.v) && (decide (y.g.v = a.length) && (decide (0 ≤ y.j) && decide (y.j < 256))))))
def armD (a : List Int) (t : Os → List (Nat × AVal)) : RDeal Os where
  ins y := y.g.ins y.s.el ++ t y
  blks y := y.s.bs
  pre := okG a
  alts := altsO
def noT' (_ : Os) : List (Nat × AVal) := []
def jT (y : Os) : List (Nat × AVal) := [(11, .int .i64 y.j)]
def eT (y : Os) : List (Nat × AVal) := [(11, .int .i64 y.j), (57, .int .u8 y.e)]
def pO0 : List Bool := [false, true, false, true, false, true, false, false, true, false, false, true, false, true, true, true, true, true, true, true, true]
def pO1 : List Bool := [false, true, true, true, false, true, false, true, false, false, true, false, false, true, false, true, true, true, true, true, true, true, true]
def pO3 : List Bool := [false, true, true, true, true, true, false, true, false, true, false, false, true, false, false, true, false, true, true, true, true, true, true, true, true]
def pO4 : List Bool := [false, true, true, true, true, true, true, true, false, true, false, true, false, false, true, false, false, true, false, true, true, true, true, true, true, true, true]
def pO5 : List Bool := [false, true, true, true, true, true, true, true, true, true, false, true, false, true, false, false, true, false, false, true, false, true, true, true, true, true, true, true, true]
def pOA : List Bool := [true, false, true, false, false, true, false, false, true, false, true, true, true, true, true, true, true, true]
def pOT : List Bool := [true, true, false, false, true, false, false, true, false, true, true, true, true, true, true, true, true]
def pOL : List Bool := [false, true, false, true, true, true, true, true, true, true, true]
def js7 : List Nat := [1, 5, 6, 7, 8, 9, 10]
def TO (a : List Int) : Tolds := sumT 4 pO0 (toldR 314 (armD a noT') js7 osO) (sumT 4 pO1 (toldR 314 (armD a jT) (js7 ++ [11]) osO) (sumT 4 pO3 (toldR 314 (armD a jT) (js7 ++ [11]) osO) (sumT 4 pO4 (toldR 314 (armD a noT') js7 osO) (sumT 4 pO5 (toldR 314 (armD a jT) (js7 ++ [11]) osO) noT))))
def tailD : RDeal Os where
  ins y := y.g.ins y.s.el
  blks y := y.s.bs
  pre y := y.s.ok (y.g.i + 1) y.g.p y.g.k && (decide (0 ≤ y.g.i) && decide (y.g.i < 200))
  alts := [⟨Unit, .normal, fun _ _ => True, fun y _ => y.g.ins y.s.el, fun y _ => y.s.bs⟩]
def TOA (a : List Int) : Tolds := sumT 4 pOA (toldR 314 (armD a eT) (js7 ++ [11, 57]) osO) (sumT 4 pOT (toldR 314 tailD js7 osO) noT)

/-! Behind the choices: all is sent, and answered. -/
inductive Fs
  | f0 (k m : Int)
  | f1 (x : Sd)
  | f3 (x : Sd) (an rs : List Int)
  | f4 (x : Sd) (an rs tk : List Int) (f q : Int)
def Fs.bs : Fs → List Blk
  | .f0 k m => [zBlk k 0 m, farB 0 0 .nils .nils]
  | .f1 x => [x.blk 2, farB 0 0 .nils .nils, Qb x.ts]
  | .f3 x an rs => [x.blk 2, farB 0 0 .nils (.slice (.own 3 0 0 2) an.length none), Qb x.ts, anB an rs]
  | .f4 x an rs tk f q => [x.blk 2, farB f q (.slice (.own 3 0 0 1) tk.length none) (.slice (.own 4 0 0 2) an.length none), Qb x.ts, tkB tk, anB an rs]
def Fs.ok (i p k : Int) : Fs → Bool
  | .f0 k' m => decide (k' = k) && inv i p k 0 m 0 [] [] [] [] [] 0 0
  | .f1 x => decide (x.k = k) && (okSd x && inv i p k x.b x.m x.n x.l [] [] [] [] 0 0)
  | .f3 x an rs => decide (x.k = k) && (okSd x && inv i p k x.b x.m x.n x.l [] an rs [] 0 0)
  | .f4 x an rs tk f q => decide (x.k = k) && (okSd x && inv i p k x.b x.m x.n x.l [] an rs tk f q)
def Fs.n : Fs → Nat
  | .f0 _ _ => 0
  | .f1 x => x.n
  | .f3 x _ _ => x.n
  | .f4 x _ _ _ _ _ => x.n
def fsOf : List Blk → Option Fs
  | [S, _] => match sxOf [S] with
    | some (.z k _ m) => some (.f0 k m)
    | _ => none
  | [S, _, Q] => match sxOf [S, Q] with
    | some (.q x) => some (.f1 x)
    | _ => none
  | [S, _, Q, A] => match sxOf [S, Q], anOf A with
    | some (.q x), some (an, rs) => some (.f3 x an rs)
    | _, _ => none
  | [S, .segs [⟨_, _, [.int _ [f]]⟩, ⟨_, _, [.int _ [q]]⟩, _, _], Q, T, A] => match sxOf [S, Q], estOf T, anOf A with
    | some (.q x), some tk, some (an, rs) => some (.f4 x an rs tk f q)
    | _, _, _ => none
  | _ => none
structure Fo where
  k : Int
  p : Int
  i : Int
  s : Fs
def Fo.ins (y : Fo) : List (Nat × AVal) := [(5, .int .i64 y.k), (6, .ptr (.own 0 0 0 0)), (7, .ptr (.own 1 0 0 0)), (8, .int .i64 y.p)]
def endIns (p : Int) : List (Nat × AVal) := [(6, .ptr (.own 0 0 0 0)), (7, .ptr (.own 1 0 0 0)), (8, .int .i64 p)]
def foO (us : List AVal) (Bs : List Blk) : Option Fo := match us, fsOf Bs with
  | [.int _ k, _, _, .int _ p, .int _ i], some s => some ⟨k, p, i, s⟩
  | _, _ => none
structure B1 where
  x : Sd
structure B3 where
  x : Sd
  an : List Int
  rs : List Int
structure B4 where
  x : Sd
  an : List Int
  rs : List Int
  tk : List Int
  f : Int
  q : Int
structure B0 where
  k : Int
  m : Int
def altsF {ξ : Type} (e : Nat) (o : ξ → Int → List (Nat × AVal)) (g : ξ → Int → Fs → Prop) : List (RAlt ξ) := [
  ⟨Int × B0, .exit e, fun y a => g y a.1 (.f0 a.2.k a.2.m), fun y a => o y a.1, fun _ a => [zBlk a.2.k 0 a.2.m, farB 0 0 .nils .nils]⟩,
  ⟨Int × B1, .exit e, fun y a => g y a.1 (.f1 a.2.x), fun y a => o y a.1, fun _ a => [a.2.x.blk 2, farB 0 0 .nils .nils, Qb a.2.x.ts]⟩,
  ⟨Int × B3, .exit e, fun y a => g y a.1 (.f3 a.2.x a.2.an a.2.rs), fun y a => o y a.1, fun _ a => [a.2.x.blk 2, farB 0 0 .nils (.slice (.own 3 0 0 2) a.2.an.length none), Qb a.2.x.ts, anB a.2.an a.2.rs]⟩,
  ⟨Int × B4, .exit e, fun y a => g y a.1 (.f4 a.2.x a.2.an a.2.rs a.2.tk a.2.f a.2.q), fun y a => o y a.1, fun _ a => [a.2.x.blk 2, farB a.2.f a.2.q (.slice (.own 3 0 0 1) a.2.tk.length none) (.slice (.own 4 0 0 2) a.2.an.length none), Qb a.2.x.ts, tkB a.2.tk, anB a.2.an a.2.rs]⟩]
def Ends (k p : Int) (s : Fs) : Prop := s.ok 300 p k = true ∧ s.n = 0
def l2D : RDeal Fo where
  ins y := y.ins ++ [(19, .int .i64 0)]
  blks y := y.s.bs
  pre y := y.s.ok 200 y.p y.k
  alts := altsF 3 (fun _ p => endIns p) fun y p s => p = y.p ∧ Ends y.k p s
def pL2 : List Bool := [false, true, false, true, true, true, true, true, true, true, true, true]
structure Tk where
  p : Int
  f : Int
  q : Int
  T : Option (List Int)
  A : Option (List Int × List Int)
def Tk.bs (y : Tk) : List Blk := match y.T, y.A with
  | none, none => [farB y.f y.q .nils .nils]
  | none, some (an, rs) => [farB y.f y.q .nils (.slice (.own 1 0 0 2) an.length none), anB an rs]
  | some tk, some (an, rs) => [farB y.f y.q (.slice (.own 1 0 0 1) tk.length none) (.slice (.own 2 0 0 2) an.length none), tkB tk, anB an rs]
  | some tk, none => [farB y.f y.q (.slice (.own 1 0 0 1) tk.length none) .nils, tkB tk]
def Tk.ins (y : Tk) : List (Nat × AVal) := [(7, .ptr (.own 0 0 0 0)), (8, .int .i64 y.p)]
def tkO (us : List AVal) (Bs : List Blk) : Option Tk := match us, Bs with
  | [_, .int _ p, _], [.segs [⟨_, _, [.int _ [f]]⟩, ⟨_, _, [.int _ [q]]⟩, _, _]] => some ⟨p, f, q, none, none⟩
  | [_, .int _ p, _], [.segs [⟨_, _, [.int _ [f]]⟩, ⟨_, _, [.int _ [q]]⟩, _, _], A] => match anOf A with
    | some x => some ⟨p, f, q, none, some x⟩
    | none => none
  | [_, .int _ p, _], [.segs [⟨_, _, [.int _ [f]]⟩, ⟨_, _, [.int _ [q]]⟩, _, _], T, A] => match estOf T, anOf A with
    | some tk, some x => some ⟨p, f, q, some tk, some x⟩
    | _, _ => none
  | _, _ => none
def l3D : RDeal Tk where
  ins y := y.ins ++ [(23, .int .i64 0)]
  blks := Tk.bs
  pre y := match y.T, y.A with
    | none, none => decide (y.p = 0)
    | none, some _ => decide (y.p = 0)
    | some tk, some _ => decide (0 ≤ y.p) && (decide (y.p ≤ 1000) && decide (tk = rng y.p.toNat))
    | some _, none => false
  alts := [⟨Unit, .exit 5, fun _ _ => True, fun _ _ => [], fun _ _ => []⟩]
def pL3 : List Bool := [false, true, false, true, true, true, true, true, true, true, true, true, true, true]

/-- the first loop -/
structure Lo where
  V : AVal
  k : Int
def loO (us : List AVal) (Bs : List Blk) : Option Lo := match us with
  | [V, .int _ k, _, _, _, _, _] => some ⟨V, k⟩
  | _ => none
def okV (a : List Int) : AVal → Bool
  | .nils => true
  | .slice (.ro 0 0 0 0) n none => decide (n = a.length)
  | _ => false
def loIns (V : AVal) (k p i : Int) (E : AVal) : List (Nat × AVal) := [(1, V), (5, .int .i64 k), (6, .ptr (.own 0 0 0 0)), (7, .ptr (.own 1 0 0 0)), (8, .int .i64 p), (9, E), (10, .int .i64 i)]
def loD (a : List Int) : RDeal Lo where
  ins y := loIns y.V y.k 0 0 .nils
  blks y := [zBlk y.k 0 y.k, farB 0 0 .nils .nils]
  pre y := okV a y.V && newOk y.k
  alts := altsF 0 (fun y p => Fo.ins ⟨y.k, p, 0, .f0 0 0⟩) fun y p s => s.ok 200 p y.k = true
def T4 (a : List Int) : Tolds := sumT 4 pOL (toldR 314 (loD a) js7 loO) (sumT 4 pL2 (toldR 314 l2D [5, 6, 7, 8, 19] foO) (sumT 4 pL3 (toldR 314 l3D [7, 8, 23] tkO) noT))

end Go.Proofs.Ytoahbijmemgghaa
