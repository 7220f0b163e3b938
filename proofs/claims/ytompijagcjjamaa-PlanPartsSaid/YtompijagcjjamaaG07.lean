/- Parts of the walk: put, as trees; put keeps its contract, by shape. -/
import Derived.Test.YtompijagcjjamaaG06

set_option linter.unusedSimpArgs false
set_option linter.unusedVariables false
namespace Go.Proofs.Ytompijagcjjamaa
open Ab
theorem pl0000 (E : Nat → Nat → Seg) (pre q1 q2 : List O4) (k1 a1 b1 g1 k2 a2 b2 g2 la ep : Int) (n a : Int) : ((execT (W E noS noL) noT 4 400 15 pPt (codeOf 15 pPt) (mkT 82 ((ptD ⟨false, false, false, false⟩).ins ⟨⟨pre, ⟨k1, a1, b1, g1⟩, q1, ⟨k2, a2, b2, g2⟩, q2, la, ep⟩, n, a⟩)) ⟨hp 0 ((ptD ⟨false, false, false, false⟩).blks ⟨⟨pre, ⟨k1, a1, b1, g1⟩, q1, ⟨k2, a2, b2, g2⟩, q2, la, ep⟩, n, a⟩), 5, [], []⟩ leafQ)).take 4 (.c (.c (.x (.c (.f (csQ 12 (.leaf [0, 1, 2, 3] 0)))) (.x (csQ 9 (.x (.c (.n (.n (.c (.c (.c (.leaf [0, 1, 2, 3] 0))))))) (.c (.c (.leaf [0, 1, 2, 3] 0))))) (csQ 12 (.leaf [0, 1, 2, 3] 0)))))) =
(let m0 : Blk := (.segs [⟨List.length pre, 4, [.int .i64 (k4 pre), .int .i64 (a4 pre), .int .i64 (b4 pre), .int .i64 (g4 pre)]⟩])
let w0 : Blk := (.segs [⟨List.length q1, 4, [.int .i64 (k4 q1), .int .i64 (a4 q1), .int .i64 (b4 q1), .int .i64 (g4 q1)]⟩])
let z0 := (List.length q1)
let v0 : Blk := (.segs [⟨1, 5, [.int .i64 [k1], .int .i64 [a1], .int .i64 [b1], .int .i64 [g1], .val [.slice (.own 3 0 0 4) z0 none]]⟩])
let j0 : Blk := (.segs [⟨1, 1, [.val [.slice (.own 1 0 0 4) (List.length pre) none]]⟩, ⟨1, 1, [.val [.slice (.own 2 0 0 5) 1 none]]⟩, ⟨1, 1, [.int .i64 [la]]⟩, ⟨1, 1, [.int .i64 [ep]]⟩])
let i0 : TreeQ State := (.leaf (.exit 0, mkT 82 [], [(0, some j0), (1, some m0), (2, some v0), (3, some w0)]))
let x0 := (wr .i64 (n - a) - 1)
let u0 := (0 + Int.toNat (wr .i64 x0))
(.br (decide (n = a)) (.but (decide (a < n)) (.leaf (.exit 0, mkT 82 [], [(0, some j0), (1, some m0), (2, some (.segs [⟨1, 5, [.int .i64 [99], .int .i64 [0], .int .i64 [0], .int .i64 [0], .val [.slice (.own 3 0 0 4) z0 none]]⟩])), (3, some w0)]))) (.br (decide (a < n)) (.br (decide (n ≤ wr .i64 (a + (↑z0 : Int)))) (.need (decide (0 ≤ wr .i64 x0) && decide (wr .i64 x0 < (↑z0 : Int))) (.need (decide (0 + Int.toNat (wr .i64 x0) < List.length q1)) (.leaf (.exit 0, mkT 82 [], [(0, some j0), (1, some m0), (2, some v0), (3, some (.segs [⟨List.length q1, 4, [.int .i64 (List.set (k4 q1) u0 99), .int .i64 (List.set (a4 q1) u0 0), .int .i64 (List.set (b4 q1) u0 0), .int .i64 (List.set (g4 q1) u0 0)]⟩]))])))) i0) i0))) := by kernel_rfl
theorem pf0000 (E : Nat → Nat → Seg) (pre q1 q2 : List O4) (k1 a1 b1 g1 k2 a2 b2 g2 la ep : Int) (n : Int) : ((callT Try.prog E (W E noS noL) (ptT ⟨false, false, false, false⟩) 4 15 [.ptr (.own 0 0 0 0), .int .i64 n, badV] ⟨hp 0 (Pl.inB ⟨false, false, false, false⟩ ⟨pre, ⟨k1, a1, b1, g1⟩, q1, ⟨k2, a2, b2, g2⟩, q2, la, ep⟩), 4, [], []⟩)).take 4 (.x (.n (.n (.c (.leaf [0, 1, 2, 3] 0)))) (.c (.n (.n (.a (.i (.leaf [0, 1, 2, 3] 0))))))) =
(let w0 : Sh := { e := false, f := false, t := false, u := false }
let u0 : Pl := { pre := un4 (k4 pre) (a4 pre) (b4 pre) (g4 pre), o1 := { k := k1, a := a1, b := b1, g := g1 }, q1 := un4 (k4 q1) (a4 q1) (b4 q1) (g4 q1), o2 := z4, q2 := [], la := la, ep := ep }
let i0 := (putP w0 u0 n)
let j0 := (un4 (k4 pre) (a4 pre) (b4 pre) (g4 pre))
let m0 := (un4 (k4 q1) (a4 q1) (b4 q1) (g4 q1))
let v0 := (↑(List.length pre) : Int)
let x0 := (0 + Int.toNat n)
let z0 : Seg := ⟨1, 1, [.val [.slice (.own 2 0 0 5) 1 none]]⟩
(.br (decide (n < v0)) (.need (decide (0 ≤ n) && decide (n < v0)) (.need (decide (0 + Int.toNat n < List.length pre)) (.leaf (.ret, mkT 1 [], [(0, some (.segs [⟨1, 1, [.val [.slice (.own 1 0 0 4) (List.length pre) none]]⟩, z0, ⟨1, 1, [.int .i64 [la]]⟩, ⟨1, 1, [.int .i64 [ep]]⟩])), (1, some (.segs [⟨List.length pre, 4, [.int .i64 (List.set (k4 pre) x0 99), .int .i64 (List.set (a4 pre) x0 0), .int .i64 (List.set (b4 pre) x0 0), .int .i64 (List.set (g4 pre) x0 0)]⟩])), (2, some (.segs [⟨1, 5, [.int .i64 [k1], .int .i64 [a1], .int .i64 [b1], .int .i64 [g1], .val [.slice (.own 3 0 0 4) (List.length q1) none]]⟩])), (3, some (.segs [⟨List.length q1, 4, [.int .i64 (k4 q1), .int .i64 (a4 q1), .int .i64 (b4 q1), .int .i64 (g4 q1)]⟩]))])))) (.need (rf n && (rf (v0) && true) && (decide (List.length pre = List.length j0) && true && true && true && (rf [la] && true && (rf [ep] && true && true)) && (decide (List.length pre = List.length j0) && (decide (k4 pre = k4 j0) && (decide (a4 pre = a4 j0) && (decide (b4 pre = b4 j0) && (decide (g4 pre = g4 j0) && true))) && true) && (rf [k1] && (rf [a1] && (rf [b1] && (rf [g1] && (decide (List.length q1 = List.length m0) && true && true && true)))) && true && (decide (List.length q1 = List.length m0) && (decide (k4 q1 = k4 m0) && (decide (a4 q1 = a4 m0) && (decide (b4 q1 = b4 m0) && (decide (g4 q1 = g4 m0) && true))) && true) && true))))) (.need (okPt w0 { y := u0, n := n, a := v0 }) (.all (PUnit) fun (y1 : PUnit) => (.imp (True) (.leaf (.ret, mkT 1 [], [(0, some (.segs [{ n := 1, st := 1, cols := [.val [.slice (.own 1 0 0 4) (List.length (Pl.pre i0)) none]] }, z0, { n := 1, st := 1, cols := [.int .i64 [Pl.la i0]] }, { n := 1, st := 1, cols := [.int .i64 [Pl.ep i0]] }])), (1, some (.segs [{ n := List.length (Pl.pre i0), st := 4, cols := [.int .i64 (k4 (Pl.pre i0)), .int .i64 (a4 (Pl.pre i0)), .int .i64 (b4 (Pl.pre i0)), .int .i64 (g4 (Pl.pre i0))] }])), (2, some (.segs [{ n := 1, st := 5, cols := [.int .i64 [O4.k (Pl.o1 i0)], .int .i64 [O4.a (Pl.o1 i0)], .int .i64 [O4.b (Pl.o1 i0)], .int .i64 [O4.g (Pl.o1 i0)], .val [.slice (.own 3 0 0 4) (List.length (Pl.q1 i0)) none]] }])), (3, some (.segs [{ n := List.length (Pl.q1 i0), st := 4, cols := [.int .i64 (k4 (Pl.q1 i0)), .int .i64 (a4 (Pl.q1 i0)), .int .i64 (b4 (Pl.q1 i0)), .int .i64 (g4 (Pl.q1 i0))] }]))])))))))) := by kernel_rfl
theorem pl0010 (E : Nat → Nat → Seg) (pre q1 q2 : List O4) (k1 a1 b1 g1 k2 a2 b2 g2 la ep : Int) (n a : Int) : ((execT (W E noS noL) noT 5 400 15 pPt (codeOf 15 pPt) (mkT 82 ((ptD ⟨false, false, true, false⟩).ins ⟨⟨pre, ⟨k1, a1, b1, g1⟩, q1, ⟨k2, a2, b2, g2⟩, q2, la, ep⟩, n, a⟩)) ⟨hp 0 ((ptD ⟨false, false, true, false⟩).blks ⟨⟨pre, ⟨k1, a1, b1, g1⟩, q1, ⟨k2, a2, b2, g2⟩, q2, la, ep⟩, n, a⟩), 6, [], []⟩ leafQ)).take 5 (.c (.c (.x (.c (.f (csQ 13 (.x (.c (.f (csQ 12 (.leaf [0, 1, 2, 3, 4] 0)))) (.x (csQ 9 (.x (.c (.n (.n (.c (.c (.c (.leaf [0, 1, 2, 3, 4] 0))))))) (.c (.c (.leaf [0, 1, 2, 3, 4] 0))))) (csQ 12 (.leaf [0, 1, 2, 3, 4] 0))))))) (.x (csQ 9 (.x (.c (.n (.n (csQ 4 (.x (.c (.f (csQ 12 (.leaf [0, 1, 2, 3, 4] 0)))) (.x (csQ 9 (.x (.c (.n (.n (.c (.c (.c (.leaf [0, 1, 2, 3, 4] 0))))))) (.c (.c (.leaf [0, 1, 2, 3, 4] 0))))) (csQ 12 (.leaf [0, 1, 2, 3, 4] 0)))))))) (.c (.c (.c (.x (.c (.f (csQ 12 (.leaf [0, 1, 2, 3, 4] 0)))) (.x (csQ 9 (.x (.c (.n (.n (.c (.c (.c (.leaf [0, 1, 2, 3, 4] 0))))))) (.c (.c (.leaf [0, 1, 2, 3, 4] 0))))) (csQ 12 (.leaf [0, 1, 2, 3, 4] 0))))))))) (csQ 13 (.x (.c (.f (csQ 12 (.leaf [0, 1, 2, 3, 4] 0)))) (.x (csQ 9 (.x (.c (.n (.n (.c (.c (.c (.leaf [0, 1, 2, 3, 4] 0))))))) (.c (.c (.leaf [0, 1, 2, 3, 4] 0))))) (csQ 12 (.leaf [0, 1, 2, 3, 4] 0))))))))) =
(let u2 := (List.length q1)
let i1 := (wr .i64 (a + 1) + (↑u2 : Int))
let m0 := (wr .i64 (n - wr .i64 i1) - 1)
let z1 : Bool := (decide (0 + Int.toNat (wr .i64 m0) < List.length q2))
let x0 : Blk := (.segs [⟨List.length q2, 4, [.int .i64 (k4 q2), .int .i64 (a4 q2), .int .i64 (b4 q2), .int .i64 (g4 q2)]⟩])
let u0 : Blk := (.segs [⟨List.length pre, 4, [.int .i64 (k4 pre), .int .i64 (a4 pre), .int .i64 (b4 pre), .int .i64 (g4 pre)]⟩])
let w2 := (List.length q2)
let w0 : Blk := (.segs [⟨2, 5, [.int .i64 [k1, k2], .int .i64 [a1, a2], .int .i64 [b1, b2], .int .i64 [g1, g2], .val [.slice (.own 3 0 0 4) u2 none, .slice (.own 4 0 0 4) w2 none]]⟩])
let z0 : Blk := (.segs [⟨List.length q1, 4, [.int .i64 (k4 q1), .int .i64 (a4 q1), .int .i64 (b4 q1), .int .i64 (g4 q1)]⟩])
let j0 : Blk := (.segs [⟨1, 1, [.val [.slice (.own 1 0 0 4) (List.length pre) none]]⟩, ⟨1, 1, [.val [.slice (.own 2 0 0 5) 2 none]]⟩, ⟨1, 1, [.int .i64 [la]]⟩, ⟨1, 1, [.int .i64 [ep]]⟩])
let m2 : TreeQ State := (.leaf (.exit 0, mkT 82 [], [(0, some j0), (1, some u0), (2, some w0), (3, some z0), (4, some x0)]))
let v2 := (0 + Int.toNat (wr .i64 m0))
let q0 : Blk := (.segs [⟨List.length q2, 4, [.int .i64 (List.set (k4 q2) v2 99), .int .i64 (List.set (a4 q2) v2 0), .int .i64 (List.set (b4 q2) v2 0), .int .i64 (List.set (g4 q2) v2 0)]⟩])
let x1 : Bool := (decide (wr .i64 i1 < n))
let m1 : Blk := (.segs [⟨2, 5, [.int .i64 [k1, 99], .int .i64 [a1, 0], .int .i64 [b1, 0], .int .i64 [g1, 0], .val [.slice (.own 3 0 0 4) u2 none, .slice (.own 4 0 0 4) w2 none]]⟩])
let w1 : Bool := (decide (n ≤ wr .i64 (wr .i64 i1 + (↑w2 : Int))))
let z2 : Bool := (decide (n = wr .i64 i1))
let u1 : Bool := (decide (0 ≤ wr .i64 m0) && decide (wr .i64 m0 < (↑w2 : Int)))
let i0 : TreeQ State := (.br z2 (.but x1 (.leaf (.exit 0, mkT 82 [], [(0, some j0), (1, some u0), (2, some m1), (3, some z0), (4, some x0)]))) (.br x1 (.br w1 (.need u1 (.need z1 (.leaf (.exit 0, mkT 82 [], [(0, some j0), (1, some u0), (2, some w0), (3, some z0), (4, some q0)])))) m2) m2))
let x2 := (wr .i64 (n - a) - 1)
let v1 := (0 + Int.toNat (wr .i64 x2))
let v0 : Blk := (.segs [⟨List.length q1, 4, [.int .i64 (List.set (k4 q1) v1 99), .int .i64 (List.set (a4 q1) v1 0), .int .i64 (List.set (b4 q1) v1 0), .int .i64 (List.set (g4 q1) v1 0)]⟩])
let j1 : Blk := (.segs [⟨2, 5, [.int .i64 [99, k2], .int .i64 [0, a2], .int .i64 [0, b2], .int .i64 [0, g2], .val [.slice (.own 3 0 0 4) u2 none, .slice (.own 4 0 0 4) w2 none]]⟩])
let i2 : TreeQ State := (.leaf (.exit 0, mkT 82 [], [(0, some j0), (1, some u0), (2, some j1), (3, some z0), (4, some x0)]))
let j2 : TreeQ State := (.leaf (.exit 0, mkT 82 [], [(0, some j0), (1, some u0), (2, some w0), (3, some v0), (4, some x0)]))
(.br (decide (n = a)) (.but (decide (a < n)) (.br z2 (.but x1 (.leaf (.exit 0, mkT 82 [], [(0, some j0), (1, some u0), (2, some (.segs [⟨2, 5, [.int .i64 [99, 99], .int .i64 [0, 0], .int .i64 [0, 0], .int .i64 [0, 0], .val [.slice (.own 3 0 0 4) u2 none, .slice (.own 4 0 0 4) w2 none]]⟩])), (3, some z0), (4, some x0)]))) (.br x1 (.br w1 (.need u1 (.need z1 (.leaf (.exit 0, mkT 82 [], [(0, some j0), (1, some u0), (2, some j1), (3, some z0), (4, some q0)])))) i2) i2))) (.br (decide (a < n)) (.br (decide (n ≤ wr .i64 (a + (↑u2 : Int)))) (.need (decide (0 ≤ wr .i64 x2) && decide (wr .i64 x2 < (↑u2 : Int))) (.need (decide (0 + Int.toNat (wr .i64 x2) < List.length q1)) (.br z2 (.but x1 (.leaf (.exit 0, mkT 82 [], [(0, some j0), (1, some u0), (2, some m1), (3, some v0), (4, some x0)]))) (.br x1 (.br w1 (.need u1 (.need z1 (.leaf (.exit 0, mkT 82 [], [(0, some j0), (1, some u0), (2, some w0), (3, some v0), (4, some q0)])))) j2) j2)))) i0) i0))) := by kernel_rfl
theorem pf0010 (E : Nat → Nat → Seg) (pre q1 q2 : List O4) (k1 a1 b1 g1 k2 a2 b2 g2 la ep : Int) (n : Int) : ((callT Try.prog E (W E noS noL) (ptT ⟨false, false, true, false⟩) 5 15 [.ptr (.own 0 0 0 0), .int .i64 n, badV] ⟨hp 0 (Pl.inB ⟨false, false, true, false⟩ ⟨pre, ⟨k1, a1, b1, g1⟩, q1, ⟨k2, a2, b2, g2⟩, q2, la, ep⟩), 5, [], []⟩)).take 5 (.x (.n (.n (.c (.leaf [0, 1, 2, 3, 4] 0)))) (.c (.n (.n (.a (.i (.leaf [0, 1, 2, 3, 4] 0))))))) =
(let j0 : Pl := { pre := un4 (k4 pre) (a4 pre) (b4 pre) (g4 pre), o1 := { k := k1, a := a1, b := b1, g := g1 }, q1 := un4 (k4 q1) (a4 q1) (b4 q1) (g4 q1), o2 := { k := k2, a := a2, b := b2, g := g2 }, q2 := un4 (k4 q2) (a4 q2) (b4 q2) (g4 q2), la := la, ep := ep }
let z0 : Sh := { e := false, f := false, t := true, u := false }
let i0 := (putP z0 j0 n)
let m0 := (un4 (k4 pre) (a4 pre) (b4 pre) (g4 pre))
let u0 := (un4 (k4 q1) (a4 q1) (b4 q1) (g4 q1))
let v0 := (un4 (k4 q2) (a4 q2) (b4 q2) (g4 q2))
let w0 := (↑(List.length pre) : Int)
let x0 := (0 + Int.toNat n)
let q0 : Seg := ⟨1, 1, [.val [.slice (.own 2 0 0 5) 2 none]]⟩
(.br (decide (n < w0)) (.need (decide (0 ≤ n) && decide (n < w0)) (.need (decide (0 + Int.toNat n < List.length pre)) (.leaf (.ret, mkT 1 [], [(0, some (.segs [⟨1, 1, [.val [.slice (.own 1 0 0 4) (List.length pre) none]]⟩, q0, ⟨1, 1, [.int .i64 [la]]⟩, ⟨1, 1, [.int .i64 [ep]]⟩])), (1, some (.segs [⟨List.length pre, 4, [.int .i64 (List.set (k4 pre) x0 99), .int .i64 (List.set (a4 pre) x0 0), .int .i64 (List.set (b4 pre) x0 0), .int .i64 (List.set (g4 pre) x0 0)]⟩])), (2, some (.segs [⟨2, 5, [.int .i64 [k1, k2], .int .i64 [a1, a2], .int .i64 [b1, b2], .int .i64 [g1, g2], .val [.slice (.own 3 0 0 4) (List.length q1) none, .slice (.own 4 0 0 4) (List.length q2) none]]⟩])), (3, some (.segs [⟨List.length q1, 4, [.int .i64 (k4 q1), .int .i64 (a4 q1), .int .i64 (b4 q1), .int .i64 (g4 q1)]⟩])), (4, some (.segs [⟨List.length q2, 4, [.int .i64 (k4 q2), .int .i64 (a4 q2), .int .i64 (b4 q2), .int .i64 (g4 q2)]⟩]))])))) (.need (rf n && (rf (w0) && true) && (decide (List.length pre = List.length m0) && true && true && true && (rf [la] && true && (rf [ep] && true && true)) && (decide (List.length pre = List.length m0) && (decide (k4 pre = k4 m0) && (decide (a4 pre = a4 m0) && (decide (b4 pre = b4 m0) && (decide (g4 pre = g4 m0) && true))) && true) && (rf [k1, k2] && (rf [a1, a2] && (rf [b1, b2] && (rf [g1, g2] && (decide (List.length q1 = List.length u0) && true && (decide (List.length q2 = List.length v0) && true && true) && true)))) && true && (decide (List.length q1 = List.length u0) && (decide (k4 q1 = k4 u0) && (decide (a4 q1 = a4 u0) && (decide (b4 q1 = b4 u0) && (decide (g4 q1 = g4 u0) && true))) && true) && (decide (List.length q2 = List.length v0) && (decide (k4 q2 = k4 v0) && (decide (a4 q2 = a4 v0) && (decide (b4 q2 = b4 v0) && (decide (g4 q2 = g4 v0) && true))) && true) && true)))))) (.need (okPt z0 { y := j0, n := n, a := w0 }) (.all (PUnit) fun (y1 : PUnit) => (.imp (True) (.leaf (.ret, mkT 1 [], [(0, some (.segs [{ n := 1, st := 1, cols := [.val [.slice (.own 1 0 0 4) (List.length (Pl.pre i0)) none]] }, q0, { n := 1, st := 1, cols := [.int .i64 [Pl.la i0]] }, { n := 1, st := 1, cols := [.int .i64 [Pl.ep i0]] }])), (1, some (.segs [{ n := List.length (Pl.pre i0), st := 4, cols := [.int .i64 (k4 (Pl.pre i0)), .int .i64 (a4 (Pl.pre i0)), .int .i64 (b4 (Pl.pre i0)), .int .i64 (g4 (Pl.pre i0))] }])), (2, some (.segs [{ n := 2, st := 5, cols := [.int .i64 [O4.k (Pl.o1 i0), O4.k (Pl.o2 i0)], .int .i64 [O4.a (Pl.o1 i0), O4.a (Pl.o2 i0)], .int .i64 [O4.b (Pl.o1 i0), O4.b (Pl.o2 i0)], .int .i64 [O4.g (Pl.o1 i0), O4.g (Pl.o2 i0)], .val [.slice (.own 3 0 0 4) (List.length (Pl.q1 i0)) none, .slice (.own 4 0 0 4) (List.length (Pl.q2 i0)) none]] }])), (3, some (.segs [{ n := List.length (Pl.q1 i0), st := 4, cols := [.int .i64 (k4 (Pl.q1 i0)), .int .i64 (a4 (Pl.q1 i0)), .int .i64 (b4 (Pl.q1 i0)), .int .i64 (g4 (Pl.q1 i0))] }])), (4, some (.segs [{ n := List.length (Pl.q2 i0), st := 4, cols := [.int .i64 (k4 (Pl.q2 i0)), .int .i64 (a4 (Pl.q2 i0)), .int .i64 (b4 (Pl.q2 i0)), .int .i64 (g4 (Pl.q2 i0))] }]))])))))))) := by kernel_rfl
theorem pl0011 (E : Nat → Nat → Seg) (pre q1 q2 : List O4) (k1 a1 b1 g1 k2 a2 b2 g2 la ep : Int) (n a : Int) : ((execT (W E noS noL) noT 4 400 15 pPt (codeOf 15 pPt) (mkT 82 ((ptD ⟨false, false, true, true⟩).ins ⟨⟨pre, ⟨k1, a1, b1, g1⟩, q1, ⟨k2, a2, b2, g2⟩, q2, la, ep⟩, n, a⟩)) ⟨hp 0 ((ptD ⟨false, false, true, true⟩).blks ⟨⟨pre, ⟨k1, a1, b1, g1⟩, q1, ⟨k2, a2, b2, g2⟩, q2, la, ep⟩, n, a⟩), 5, [], []⟩ leafQ)).take 4 (.c (.c (.x (.c (.f (csQ 13 (.x (.c (.f (csQ 12 (.leaf [0, 1, 2, 3] 0)))) (.x (csQ 9 (.x (.c (.leaf [] 0)) (.c (.c (.leaf [0, 1, 2, 3] 0))))) (csQ 12 (.leaf [0, 1, 2, 3] 0))))))) (.x (csQ 9 (.x (.c (.n (.n (csQ 4 (.x (.c (.f (csQ 12 (.leaf [0, 1, 2, 3] 0)))) (.x (csQ 9 (.x (.c (.leaf [] 0)) (.c (.c (.leaf [0, 1, 2, 3] 0))))) (csQ 12 (.leaf [0, 1, 2, 3] 0)))))))) (.c (.c (.c (.x (.c (.f (csQ 12 (.leaf [0, 1, 2, 3] 0)))) (.x (csQ 9 (.x (.c (.leaf [] 0)) (.c (.c (.leaf [0, 1, 2, 3] 0))))) (csQ 12 (.leaf [0, 1, 2, 3] 0))))))))) (csQ 13 (.x (.c (.f (csQ 12 (.leaf [0, 1, 2, 3] 0)))) (.x (csQ 9 (.x (.c (.leaf [] 0)) (.c (.c (.leaf [0, 1, 2, 3] 0))))) (csQ 12 (.leaf [0, 1, 2, 3] 0))))))))) =
(let m0 : Blk := (.segs [⟨List.length pre, 4, [.int .i64 (k4 pre), .int .i64 (a4 pre), .int .i64 (b4 pre), .int .i64 (g4 pre)]⟩])
let m1 := (List.length q1)
let w0 := (wr .i64 (a + 1) + (↑m1 : Int))
let z1 : Bool := (decide (n = wr .i64 w0))
let j1 : Bool := (decide (wr .i64 w0 < n))
let q0 : Blk := (.segs [⟨2, 5, [.int .i64 [k1, 99], .int .i64 [a1, 0], .int .i64 [b1, 0], .int .i64 [g1, 0], .val [.slice (.own 3 0 0 4) m1 none, .nils]]⟩])
let v0 : Blk := (.segs [⟨List.length q1, 4, [.int .i64 (k4 q1), .int .i64 (a4 q1), .int .i64 (b4 q1), .int .i64 (g4 q1)]⟩])
let x0 : Blk := (.segs [⟨2, 5, [.int .i64 [k1, k2], .int .i64 [a1, a2], .int .i64 [b1, b2], .int .i64 [g1, g2], .val [.slice (.own 3 0 0 4) m1 none, .nils]]⟩])
let j0 : Blk := (.segs [⟨1, 1, [.val [.slice (.own 1 0 0 4) (List.length pre) none]]⟩, ⟨1, 1, [.val [.slice (.own 2 0 0 5) 2 none]]⟩, ⟨1, 1, [.int .i64 [la]]⟩, ⟨1, 1, [.int .i64 [ep]]⟩])
let w1 : TreeQ State := (.leaf (.exit 0, mkT 82 [], [(0, some j0), (1, some m0), (2, some x0), (3, some v0)]))
let u1 : Bool := (decide (n ≤ wr .i64 (wr .i64 w0 + 0)))
let i0 : TreeQ State := (.br z1 (.but j1 (.leaf (.exit 0, mkT 82 [], [(0, some j0), (1, some m0), (2, some q0), (3, some v0)]))) (.br j1 (.br u1 .dead w1) w1))
let x1 := (wr .i64 (n - a) - 1)
let i1 := (0 + Int.toNat (wr .i64 x1))
let u0 : Blk := (.segs [⟨List.length q1, 4, [.int .i64 (List.set (k4 q1) i1 99), .int .i64 (List.set (a4 q1) i1 0), .int .i64 (List.set (b4 q1) i1 0), .int .i64 (List.set (g4 q1) i1 0)]⟩])
let z0 : TreeQ State := (.leaf (.exit 0, mkT 82 [], [(0, some j0), (1, some m0), (2, some (.segs [⟨2, 5, [.int .i64 [99, k2], .int .i64 [0, a2], .int .i64 [0, b2], .int .i64 [0, g2], .val [.slice (.own 3 0 0 4) m1 none, .nils]]⟩])), (3, some v0)]))
let v1 : TreeQ State := (.leaf (.exit 0, mkT 82 [], [(0, some j0), (1, some m0), (2, some x0), (3, some u0)]))
(.br (decide (n = a)) (.but (decide (a < n)) (.br z1 (.but j1 (.leaf (.exit 0, mkT 82 [], [(0, some j0), (1, some m0), (2, some (.segs [⟨2, 5, [.int .i64 [99, 99], .int .i64 [0, 0], .int .i64 [0, 0], .int .i64 [0, 0], .val [.slice (.own 3 0 0 4) m1 none, .nils]]⟩])), (3, some v0)]))) (.br j1 (.br u1 .dead z0) z0))) (.br (decide (a < n)) (.br (decide (n ≤ wr .i64 (a + (↑m1 : Int)))) (.need (decide (0 ≤ wr .i64 x1) && decide (wr .i64 x1 < (↑m1 : Int))) (.need (decide (0 + Int.toNat (wr .i64 x1) < List.length q1)) (.br z1 (.but j1 (.leaf (.exit 0, mkT 82 [], [(0, some j0), (1, some m0), (2, some q0), (3, some u0)]))) (.br j1 (.br u1 .dead v1) v1)))) i0) i0))) := by kernel_rfl
theorem pf0011 (E : Nat → Nat → Seg) (pre q1 q2 : List O4) (k1 a1 b1 g1 k2 a2 b2 g2 la ep : Int) (n : Int) : ((callT Try.prog E (W E noS noL) (ptT ⟨false, false, true, true⟩) 4 15 [.ptr (.own 0 0 0 0), .int .i64 n, badV] ⟨hp 0 (Pl.inB ⟨false, false, true, true⟩ ⟨pre, ⟨k1, a1, b1, g1⟩, q1, ⟨k2, a2, b2, g2⟩, q2, la, ep⟩), 4, [], []⟩)).take 4 (.x (.n (.n (.c (.leaf [0, 1, 2, 3] 0)))) (.c (.n (.n (.a (.i (.leaf [0, 1, 2, 3] 0))))))) =
(let j0 : Pl := { pre := un4 (k4 pre) (a4 pre) (b4 pre) (g4 pre), o1 := { k := k1, a := a1, b := b1, g := g1 }, q1 := un4 (k4 q1) (a4 q1) (b4 q1) (g4 q1), o2 := { k := k2, a := a2, b := b2, g := g2 }, q2 := [], la := la, ep := ep }
let z0 : Sh := { e := false, f := false, t := true, u := true }
let i0 := (putP z0 j0 n)
let m0 := (un4 (k4 pre) (a4 pre) (b4 pre) (g4 pre))
let u0 := (un4 (k4 q1) (a4 q1) (b4 q1) (g4 q1))
let v0 := (↑(List.length pre) : Int)
let w0 := (0 + Int.toNat n)
let x0 : Seg := ⟨1, 1, [.val [.slice (.own 2 0 0 5) 2 none]]⟩
(.br (decide (n < v0)) (.need (decide (0 ≤ n) && decide (n < v0)) (.need (decide (0 + Int.toNat n < List.length pre)) (.leaf (.ret, mkT 1 [], [(0, some (.segs [⟨1, 1, [.val [.slice (.own 1 0 0 4) (List.length pre) none]]⟩, x0, ⟨1, 1, [.int .i64 [la]]⟩, ⟨1, 1, [.int .i64 [ep]]⟩])), (1, some (.segs [⟨List.length pre, 4, [.int .i64 (List.set (k4 pre) w0 99), .int .i64 (List.set (a4 pre) w0 0), .int .i64 (List.set (b4 pre) w0 0), .int .i64 (List.set (g4 pre) w0 0)]⟩])), (2, some (.segs [⟨2, 5, [.int .i64 [k1, k2], .int .i64 [a1, a2], .int .i64 [b1, b2], .int .i64 [g1, g2], .val [.slice (.own 3 0 0 4) (List.length q1) none, .nils]]⟩])), (3, some (.segs [⟨List.length q1, 4, [.int .i64 (k4 q1), .int .i64 (a4 q1), .int .i64 (b4 q1), .int .i64 (g4 q1)]⟩]))])))) (.need (rf n && (rf (v0) && true) && (decide (List.length pre = List.length m0) && true && true && true && (rf [la] && true && (rf [ep] && true && true)) && (decide (List.length pre = List.length m0) && (decide (k4 pre = k4 m0) && (decide (a4 pre = a4 m0) && (decide (b4 pre = b4 m0) && (decide (g4 pre = g4 m0) && true))) && true) && (rf [k1, k2] && (rf [a1, a2] && (rf [b1, b2] && (rf [g1, g2] && (decide (List.length q1 = List.length u0) && true && true && true)))) && true && (decide (List.length q1 = List.length u0) && (decide (k4 q1 = k4 u0) && (decide (a4 q1 = a4 u0) && (decide (b4 q1 = b4 u0) && (decide (g4 q1 = g4 u0) && true))) && true) && true))))) (.need (okPt z0 { y := j0, n := n, a := v0 }) (.all (PUnit) fun (y1 : PUnit) => (.imp (True) (.leaf (.ret, mkT 1 [], [(0, some (.segs [{ n := 1, st := 1, cols := [.val [.slice (.own 1 0 0 4) (List.length (Pl.pre i0)) none]] }, x0, { n := 1, st := 1, cols := [.int .i64 [Pl.la i0]] }, { n := 1, st := 1, cols := [.int .i64 [Pl.ep i0]] }])), (1, some (.segs [{ n := List.length (Pl.pre i0), st := 4, cols := [.int .i64 (k4 (Pl.pre i0)), .int .i64 (a4 (Pl.pre i0)), .int .i64 (b4 (Pl.pre i0)), .int .i64 (g4 (Pl.pre i0))] }])), (2, some (.segs [{ n := 2, st := 5, cols := [.int .i64 [O4.k (Pl.o1 i0), O4.k (Pl.o2 i0)], .int .i64 [O4.a (Pl.o1 i0), O4.a (Pl.o2 i0)], .int .i64 [O4.b (Pl.o1 i0), O4.b (Pl.o2 i0)], .int .i64 [O4.g (Pl.o1 i0), O4.g (Pl.o2 i0)], .val [.slice (.own 3 0 0 4) (List.length (Pl.q1 i0)) none, .nils]] }])), (3, some (.segs [{ n := List.length (Pl.q1 i0), st := 4, cols := [.int .i64 (k4 (Pl.q1 i0)), .int .i64 (a4 (Pl.q1 i0)), .int .i64 (b4 (Pl.q1 i0)), .int .i64 (g4 (Pl.q1 i0))] }]))])))))))) := by kernel_rfl
theorem pl0100 (E : Nat → Nat → Seg) (pre q1 q2 : List O4) (k1 a1 b1 g1 k2 a2 b2 g2 la ep : Int) (n a : Int) : ((execT (W E noS noL) noT 3 400 15 pPt (codeOf 15 pPt) (mkT 82 ((ptD ⟨false, true, false, false⟩).ins ⟨⟨pre, ⟨k1, a1, b1, g1⟩, q1, ⟨k2, a2, b2, g2⟩, q2, la, ep⟩, n, a⟩)) ⟨hp 0 ((ptD ⟨false, true, false, false⟩).blks ⟨⟨pre, ⟨k1, a1, b1, g1⟩, q1, ⟨k2, a2, b2, g2⟩, q2, la, ep⟩, n, a⟩), 4, [], []⟩ leafQ)).take 3 (.c (.c (.x (.c (.f (csQ 12 (.leaf [0, 1, 2] 0)))) (.x (csQ 9 (.x (.c (.leaf [] 0)) (.c (.c (.leaf [0, 1, 2] 0))))) (csQ 12 (.leaf [0, 1, 2] 0)))))) =
(let m0 : Blk := (.segs [⟨List.length pre, 4, [.int .i64 (k4 pre), .int .i64 (a4 pre), .int .i64 (b4 pre), .int .i64 (g4 pre)]⟩])
let j0 : Blk := (.segs [⟨1, 1, [.val [.slice (.own 1 0 0 4) (List.length pre) none]]⟩, ⟨1, 1, [.val [.slice (.own 2 0 0 5) 1 none]]⟩, ⟨1, 1, [.int .i64 [la]]⟩, ⟨1, 1, [.int .i64 [ep]]⟩])
let i0 : TreeQ State := (.leaf (.exit 0, mkT 82 [], [(0, some j0), (1, some m0), (2, some (.segs [⟨1, 5, [.int .i64 [k1], .int .i64 [a1], .int .i64 [b1], .int .i64 [g1], .nilc 1]⟩]))]))
(.br (decide (n = a)) (.but (decide (a < n)) (.leaf (.exit 0, mkT 82 [], [(0, some j0), (1, some m0), (2, some (.segs [⟨1, 5, [.int .i64 [99], .int .i64 [0], .int .i64 [0], .int .i64 [0], .nilc 1]⟩]))]))) (.br (decide (a < n)) (.br (decide (n ≤ wr .i64 (a + 0))) .dead i0) i0))) := by kernel_rfl
theorem pf0100 (E : Nat → Nat → Seg) (pre q1 q2 : List O4) (k1 a1 b1 g1 k2 a2 b2 g2 la ep : Int) (n : Int) : ((callT Try.prog E (W E noS noL) (ptT ⟨false, true, false, false⟩) 3 15 [.ptr (.own 0 0 0 0), .int .i64 n, badV] ⟨hp 0 (Pl.inB ⟨false, true, false, false⟩ ⟨pre, ⟨k1, a1, b1, g1⟩, q1, ⟨k2, a2, b2, g2⟩, q2, la, ep⟩), 3, [], []⟩)).take 3 (.x (.n (.n (.c (.leaf [0, 1, 2] 0)))) (.c (.n (.n (.a (.i (.leaf [0, 1, 2] 0))))))) =
(let w0 : Sh := { e := false, f := true, t := false, u := false }
let m0 : Pl := { pre := un4 (k4 pre) (a4 pre) (b4 pre) (g4 pre), o1 := { k := k1, a := a1, b := b1, g := g1 }, q1 := [], o2 := z4, q2 := [], la := la, ep := ep }
let i0 := (putP w0 m0 n)
let j0 := (un4 (k4 pre) (a4 pre) (b4 pre) (g4 pre))
let u0 := (↑(List.length pre) : Int)
let v0 := (0 + Int.toNat n)
let x0 : Seg := ⟨1, 1, [.val [.slice (.own 2 0 0 5) 1 none]]⟩
(.br (decide (n < u0)) (.need (decide (0 ≤ n) && decide (n < u0)) (.need (decide (0 + Int.toNat n < List.length pre)) (.leaf (.ret, mkT 1 [], [(0, some (.segs [⟨1, 1, [.val [.slice (.own 1 0 0 4) (List.length pre) none]]⟩, x0, ⟨1, 1, [.int .i64 [la]]⟩, ⟨1, 1, [.int .i64 [ep]]⟩])), (1, some (.segs [⟨List.length pre, 4, [.int .i64 (List.set (k4 pre) v0 99), .int .i64 (List.set (a4 pre) v0 0), .int .i64 (List.set (b4 pre) v0 0), .int .i64 (List.set (g4 pre) v0 0)]⟩])), (2, some (.segs [⟨1, 5, [.int .i64 [k1], .int .i64 [a1], .int .i64 [b1], .int .i64 [g1], .nilc 1]⟩]))])))) (.need (rf n && (rf (u0) && true) && (decide (List.length pre = List.length j0) && true && true && true && (rf [la] && true && (rf [ep] && true && true)) && (decide (List.length pre = List.length j0) && (decide (k4 pre = k4 j0) && (decide (a4 pre = a4 j0) && (decide (b4 pre = b4 j0) && (decide (g4 pre = g4 j0) && true))) && true) && (rf [k1] && (rf [a1] && (rf [b1] && (rf [g1] && true))) && true && true)))) (.need (okPt w0 { y := m0, n := n, a := u0 }) (.all (PUnit) fun (y1 : PUnit) => (.imp (True) (.leaf (.ret, mkT 1 [], [(0, some (.segs [{ n := 1, st := 1, cols := [.val [.slice (.own 1 0 0 4) (List.length (Pl.pre i0)) none]] }, x0, { n := 1, st := 1, cols := [.int .i64 [Pl.la i0]] }, { n := 1, st := 1, cols := [.int .i64 [Pl.ep i0]] }])), (1, some (.segs [{ n := List.length (Pl.pre i0), st := 4, cols := [.int .i64 (k4 (Pl.pre i0)), .int .i64 (a4 (Pl.pre i0)), .int .i64 (b4 (Pl.pre i0)), .int .i64 (g4 (Pl.pre i0))] }])), (2, some (.segs [{ n := 1, st := 5, cols := [.int .i64 [O4.k (Pl.o1 i0)], .int .i64 [O4.a (Pl.o1 i0)], .int .i64 [O4.b (Pl.o1 i0)], .int .i64 [O4.g (Pl.o1 i0)], .nilc 1] }]))])))))))) := by kernel_rfl
theorem pl0110 (E : Nat → Nat → Seg) (pre q1 q2 : List O4) (k1 a1 b1 g1 k2 a2 b2 g2 la ep : Int) (n a : Int) : ((execT (W E noS noL) noT 4 400 15 pPt (codeOf 15 pPt) (mkT 82 ((ptD ⟨false, true, true, false⟩).ins ⟨⟨pre, ⟨k1, a1, b1, g1⟩, q1, ⟨k2, a2, b2, g2⟩, q2, la, ep⟩, n, a⟩)) ⟨hp 0 ((ptD ⟨false, true, true, false⟩).blks ⟨⟨pre, ⟨k1, a1, b1, g1⟩, q1, ⟨k2, a2, b2, g2⟩, q2, la, ep⟩, n, a⟩), 5, [], []⟩ leafQ)).take 4 (.c (.c (.x (.c (.f (csQ 13 (.x (.c (.f (csQ 12 (.leaf [0, 1, 2, 3] 0)))) (.x (csQ 9 (.x (.c (.n (.n (.c (.c (.c (.leaf [0, 1, 2, 3] 0))))))) (.c (.c (.leaf [0, 1, 2, 3] 0))))) (csQ 12 (.leaf [0, 1, 2, 3] 0))))))) (.x (csQ 9 (.x (.c (.leaf [] 0)) (.c (.c (.c (.x (.c (.f (csQ 12 (.leaf [0, 1, 2, 3] 0)))) (.x (csQ 9 (.x (.c (.n (.n (.c (.c (.c (.leaf [0, 1, 2, 3] 0))))))) (.c (.c (.leaf [0, 1, 2, 3] 0))))) (csQ 12 (.leaf [0, 1, 2, 3] 0))))))))) (csQ 13 (.x (.c (.f (csQ 12 (.leaf [0, 1, 2, 3] 0)))) (.x (csQ 9 (.x (.c (.n (.n (.c (.c (.c (.leaf [0, 1, 2, 3] 0))))))) (.c (.c (.leaf [0, 1, 2, 3] 0))))) (csQ 12 (.leaf [0, 1, 2, 3] 0))))))))) =
(let q0 := (wr .i64 (a + 1) + 0)
let v1 : Bool := (decide (wr .i64 q0 < n))
let i1 := (List.length q2)
let z1 : Bool := (decide (n ≤ wr .i64 (wr .i64 q0 + (↑i1 : Int))))
let j0 : Blk := (.segs [⟨1, 1, [.val [.slice (.own 1 0 0 4) (List.length pre) none]]⟩, ⟨1, 1, [.val [.slice (.own 2 0 0 5) 2 none]]⟩, ⟨1, 1, [.int .i64 [la]]⟩, ⟨1, 1, [.int .i64 [ep]]⟩])
let m0 : Blk := (.segs [⟨List.length pre, 4, [.int .i64 (k4 pre), .int .i64 (a4 pre), .int .i64 (b4 pre), .int .i64 (g4 pre)]⟩])
let u0 := (wr .i64 (n - wr .i64 q0) - 1)
let j1 := (0 + Int.toNat (wr .i64 u0))
let z0 : Blk := (.segs [⟨List.length q2, 4, [.int .i64 (List.set (k4 q2) j1 99), .int .i64 (List.set (a4 q2) j1 0), .int .i64 (List.set (b4 q2) j1 0), .int .i64 (List.set (g4 q2) j1 0)]⟩])
let w0 : Blk := (.segs [⟨2, 5, [.int .i64 [k1, k2], .int .i64 [a1, a2], .int .i64 [b1, b2], .int .i64 [g1, g2], .val [.nils, .slice (.own 3 0 0 4) i1 none]]⟩])
let v0 : Blk := (.segs [⟨List.length q2, 4, [.int .i64 (k4 q2), .int .i64 (a4 q2), .int .i64 (b4 q2), .int .i64 (g4 q2)]⟩])
let x1 : Bool := (decide (0 + Int.toNat (wr .i64 u0) < List.length q2))
let w1 : Bool := (decide (0 ≤ wr .i64 u0) && decide (wr .i64 u0 < (↑i1 : Int)))
let u1 : TreeQ State := (.leaf (.exit 0, mkT 82 [], [(0, some j0), (1, some m0), (2, some w0), (3, some v0)]))
let i0 : TreeQ State := (.br (decide (n = wr .i64 q0)) (.but v1 (.leaf (.exit 0, mkT 82 [], [(0, some j0), (1, some m0), (2, some (.segs [⟨2, 5, [.int .i64 [k1, 99], .int .i64 [a1, 0], .int .i64 [b1, 0], .int .i64 [g1, 0], .val [.nils, .slice (.own 3 0 0 4) i1 none]]⟩])), (3, some v0)]))) (.br v1 (.br z1 (.need w1 (.need x1 (.leaf (.exit 0, mkT 82 [], [(0, some j0), (1, some m0), (2, some w0), (3, some z0)])))) u1) u1))
let x0 : Blk := (.segs [⟨2, 5, [.int .i64 [99, k2], .int .i64 [0, a2], .int .i64 [0, b2], .int .i64 [0, g2], .val [.nils, .slice (.own 3 0 0 4) i1 none]]⟩])
let m1 : TreeQ State := (.leaf (.exit 0, mkT 82 [], [(0, some j0), (1, some m0), (2, some x0), (3, some v0)]))
(.br (decide (n = a)) (.but (decide (a < n)) (.br (decide (n = wr .i64 q0)) (.but v1 (.leaf (.exit 0, mkT 82 [], [(0, some j0), (1, some m0), (2, some (.segs [⟨2, 5, [.int .i64 [99, 99], .int .i64 [0, 0], .int .i64 [0, 0], .int .i64 [0, 0], .val [.nils, .slice (.own 3 0 0 4) i1 none]]⟩])), (3, some v0)]))) (.br v1 (.br z1 (.need w1 (.need x1 (.leaf (.exit 0, mkT 82 [], [(0, some j0), (1, some m0), (2, some x0), (3, some z0)])))) m1) m1))) (.br (decide (a < n)) (.br (decide (n ≤ wr .i64 (a + 0))) .dead i0) i0))) := by kernel_rfl
theorem pf0110 (E : Nat → Nat → Seg) (pre q1 q2 : List O4) (k1 a1 b1 g1 k2 a2 b2 g2 la ep : Int) (n : Int) : ((callT Try.prog E (W E noS noL) (ptT ⟨false, true, true, false⟩) 4 15 [.ptr (.own 0 0 0 0), .int .i64 n, badV] ⟨hp 0 (Pl.inB ⟨false, true, true, false⟩ ⟨pre, ⟨k1, a1, b1, g1⟩, q1, ⟨k2, a2, b2, g2⟩, q2, la, ep⟩), 4, [], []⟩)).take 4 (.x (.n (.n (.c (.leaf [0, 1, 2, 3] 0)))) (.c (.n (.n (.a (.i (.leaf [0, 1, 2, 3] 0))))))) =
(let j0 : Pl := { pre := un4 (k4 pre) (a4 pre) (b4 pre) (g4 pre), o1 := { k := k1, a := a1, b := b1, g := g1 }, q1 := [], o2 := { k := k2, a := a2, b := b2, g := g2 }, q2 := un4 (k4 q2) (a4 q2) (b4 q2) (g4 q2), la := la, ep := ep }
let z0 : Sh := { e := false, f := true, t := true, u := false }
let i0 := (putP z0 j0 n)
let m0 := (un4 (k4 pre) (a4 pre) (b4 pre) (g4 pre))
let u0 := (un4 (k4 q2) (a4 q2) (b4 q2) (g4 q2))
let v0 := (↑(List.length pre) : Int)
let w0 := (0 + Int.toNat n)
let x0 : Seg := ⟨1, 1, [.val [.slice (.own 2 0 0 5) 2 none]]⟩
(.br (decide (n < v0)) (.need (decide (0 ≤ n) && decide (n < v0)) (.need (decide (0 + Int.toNat n < List.length pre)) (.leaf (.ret, mkT 1 [], [(0, some (.segs [⟨1, 1, [.val [.slice (.own 1 0 0 4) (List.length pre) none]]⟩, x0, ⟨1, 1, [.int .i64 [la]]⟩, ⟨1, 1, [.int .i64 [ep]]⟩])), (1, some (.segs [⟨List.length pre, 4, [.int .i64 (List.set (k4 pre) w0 99), .int .i64 (List.set (a4 pre) w0 0), .int .i64 (List.set (b4 pre) w0 0), .int .i64 (List.set (g4 pre) w0 0)]⟩])), (2, some (.segs [⟨2, 5, [.int .i64 [k1, k2], .int .i64 [a1, a2], .int .i64 [b1, b2], .int .i64 [g1, g2], .val [.nils, .slice (.own 3 0 0 4) (List.length q2) none]]⟩])), (3, some (.segs [⟨List.length q2, 4, [.int .i64 (k4 q2), .int .i64 (a4 q2), .int .i64 (b4 q2), .int .i64 (g4 q2)]⟩]))])))) (.need (rf n && (rf (v0) && true) && (decide (List.length pre = List.length m0) && true && true && true && (rf [la] && true && (rf [ep] && true && true)) && (decide (List.length pre = List.length m0) && (decide (k4 pre = k4 m0) && (decide (a4 pre = a4 m0) && (decide (b4 pre = b4 m0) && (decide (g4 pre = g4 m0) && true))) && true) && (rf [k1, k2] && (rf [a1, a2] && (rf [b1, b2] && (rf [g1, g2] && (decide (List.length q2 = List.length u0) && true && true && true)))) && true && (decide (List.length q2 = List.length u0) && (decide (k4 q2 = k4 u0) && (decide (a4 q2 = a4 u0) && (decide (b4 q2 = b4 u0) && (decide (g4 q2 = g4 u0) && true))) && true) && true))))) (.need (okPt z0 { y := j0, n := n, a := v0 }) (.all (PUnit) fun (y1 : PUnit) => (.imp (True) (.leaf (.ret, mkT 1 [], [(0, some (.segs [{ n := 1, st := 1, cols := [.val [.slice (.own 1 0 0 4) (List.length (Pl.pre i0)) none]] }, x0, { n := 1, st := 1, cols := [.int .i64 [Pl.la i0]] }, { n := 1, st := 1, cols := [.int .i64 [Pl.ep i0]] }])), (1, some (.segs [{ n := List.length (Pl.pre i0), st := 4, cols := [.int .i64 (k4 (Pl.pre i0)), .int .i64 (a4 (Pl.pre i0)), .int .i64 (b4 (Pl.pre i0)), .int .i64 (g4 (Pl.pre i0))] }])), (2, some (.segs [{ n := 2, st := 5, cols := [.int .i64 [O4.k (Pl.o1 i0), O4.k (Pl.o2 i0)], .int .i64 [O4.a (Pl.o1 i0), O4.a (Pl.o2 i0)], .int .i64 [O4.b (Pl.o1 i0), O4.b (Pl.o2 i0)], .int .i64 [O4.g (Pl.o1 i0), O4.g (Pl.o2 i0)], .val [.nils, .slice (.own 3 0 0 4) (List.length (Pl.q2 i0)) none]] }])), (3, some (.segs [{ n := List.length (Pl.q2 i0), st := 4, cols := [.int .i64 (k4 (Pl.q2 i0)), .int .i64 (a4 (Pl.q2 i0)), .int .i64 (b4 (Pl.q2 i0)), .int .i64 (g4 (Pl.q2 i0))] }]))])))))))) := by kernel_rfl
theorem pl0111 (E : Nat → Nat → Seg) (pre q1 q2 : List O4) (k1 a1 b1 g1 k2 a2 b2 g2 la ep : Int) (n a : Int) : ((execT (W E noS noL) noT 3 400 15 pPt (codeOf 15 pPt) (mkT 82 ((ptD ⟨false, true, true, true⟩).ins ⟨⟨pre, ⟨k1, a1, b1, g1⟩, q1, ⟨k2, a2, b2, g2⟩, q2, la, ep⟩, n, a⟩)) ⟨hp 0 ((ptD ⟨false, true, true, true⟩).blks ⟨⟨pre, ⟨k1, a1, b1, g1⟩, q1, ⟨k2, a2, b2, g2⟩, q2, la, ep⟩, n, a⟩), 4, [], []⟩ leafQ)).take 3 (.c (.c (.x (.c (.f (csQ 13 (.x (.c (.f (csQ 12 (.leaf [0, 1, 2] 0)))) (.x (csQ 9 (.x (.c (.leaf [] 0)) (.c (.c (.leaf [0, 1, 2] 0))))) (csQ 12 (.leaf [0, 1, 2] 0))))))) (.x (csQ 9 (.x (.c (.leaf [] 0)) (.c (.c (.c (.x (.c (.f (csQ 12 (.leaf [0, 1, 2] 0)))) (.x (csQ 9 (.x (.c (.leaf [] 0)) (.c (.c (.leaf [0, 1, 2] 0))))) (csQ 12 (.leaf [0, 1, 2] 0))))))))) (csQ 13 (.x (.c (.f (csQ 12 (.leaf [0, 1, 2] 0)))) (.x (csQ 9 (.x (.c (.leaf [] 0)) (.c (.c (.leaf [0, 1, 2] 0))))) (csQ 12 (.leaf [0, 1, 2] 0))))))))) =
(let w0 := (wr .i64 (a + 1) + 0)
let x0 : Bool := (decide (wr .i64 w0 < n))
let j0 : Blk := (.segs [⟨1, 1, [.val [.slice (.own 1 0 0 4) (List.length pre) none]]⟩, ⟨1, 1, [.val [.slice (.own 2 0 0 5) 2 none]]⟩, ⟨1, 1, [.int .i64 [la]]⟩, ⟨1, 1, [.int .i64 [ep]]⟩])
let m0 : Blk := (.segs [⟨List.length pre, 4, [.int .i64 (k4 pre), .int .i64 (a4 pre), .int .i64 (b4 pre), .int .i64 (g4 pre)]⟩])
let u0 : TreeQ State := (.leaf (.exit 0, mkT 82 [], [(0, some j0), (1, some m0), (2, some (.segs [⟨2, 5, [.int .i64 [k1, k2], .int .i64 [a1, a2], .int .i64 [b1, b2], .int .i64 [g1, g2], .nilc 2]⟩]))]))
let i0 : TreeQ State := (.br (decide (n = wr .i64 w0)) (.but x0 (.leaf (.exit 0, mkT 82 [], [(0, some j0), (1, some m0), (2, some (.segs [⟨2, 5, [.int .i64 [k1, 99], .int .i64 [a1, 0], .int .i64 [b1, 0], .int .i64 [g1, 0], .nilc 2]⟩]))]))) (.br x0 (.br (decide (n ≤ wr .i64 (wr .i64 w0 + 0))) .dead u0) u0))
let v0 : TreeQ State := (.leaf (.exit 0, mkT 82 [], [(0, some j0), (1, some m0), (2, some (.segs [⟨2, 5, [.int .i64 [99, k2], .int .i64 [0, a2], .int .i64 [0, b2], .int .i64 [0, g2], .nilc 2]⟩]))]))
(.br (decide (n = a)) (.but (decide (a < n)) (.br (decide (n = wr .i64 w0)) (.but x0 (.leaf (.exit 0, mkT 82 [], [(0, some j0), (1, some m0), (2, some (.segs [⟨2, 5, [.int .i64 [99, 99], .int .i64 [0, 0], .int .i64 [0, 0], .int .i64 [0, 0], .nilc 2]⟩]))]))) (.br x0 (.br (decide (n ≤ wr .i64 (wr .i64 w0 + 0))) .dead v0) v0))) (.br (decide (a < n)) (.br (decide (n ≤ wr .i64 (a + 0))) .dead i0) i0))) := by kernel_rfl
theorem pf0111 (E : Nat → Nat → Seg) (pre q1 q2 : List O4) (k1 a1 b1 g1 k2 a2 b2 g2 la ep : Int) (n : Int) : ((callT Try.prog E (W E noS noL) (ptT ⟨false, true, true, true⟩) 3 15 [.ptr (.own 0 0 0 0), .int .i64 n, badV] ⟨hp 0 (Pl.inB ⟨false, true, true, true⟩ ⟨pre, ⟨k1, a1, b1, g1⟩, q1, ⟨k2, a2, b2, g2⟩, q2, la, ep⟩), 3, [], []⟩)).take 3 (.x (.n (.n (.c (.leaf [0, 1, 2] 0)))) (.c (.n (.n (.a (.i (.leaf [0, 1, 2] 0))))))) =
(let m0 : Pl := { pre := un4 (k4 pre) (a4 pre) (b4 pre) (g4 pre), o1 := { k := k1, a := a1, b := b1, g := g1 }, q1 := [], o2 := { k := k2, a := a2, b := b2, g := g2 }, q2 := [], la := la, ep := ep }
let x0 : Sh := { e := false, f := true, t := true, u := true }
let i0 := (putP x0 m0 n)
let j0 := (un4 (k4 pre) (a4 pre) (b4 pre) (g4 pre))
let u0 := (↑(List.length pre) : Int)
let v0 := (0 + Int.toNat n)
let w0 : Seg := ⟨1, 1, [.val [.slice (.own 2 0 0 5) 2 none]]⟩
(.br (decide (n < u0)) (.need (decide (0 ≤ n) && decide (n < u0)) (.need (decide (0 + Int.toNat n < List.length pre)) (.leaf (.ret, mkT 1 [], [(0, some (.segs [⟨1, 1, [.val [.slice (.own 1 0 0 4) (List.length pre) none]]⟩, w0, ⟨1, 1, [.int .i64 [la]]⟩, ⟨1, 1, [.int .i64 [ep]]⟩])), (1, some (.segs [⟨List.length pre, 4, [.int .i64 (List.set (k4 pre) v0 99), .int .i64 (List.set (a4 pre) v0 0), .int .i64 (List.set (b4 pre) v0 0), .int .i64 (List.set (g4 pre) v0 0)]⟩])), (2, some (.segs [⟨2, 5, [.int .i64 [k1, k2], .int .i64 [a1, a2], .int .i64 [b1, b2], .int .i64 [g1, g2], .nilc 2]⟩]))])))) (.need (rf n && (rf (u0) && true) && (decide (List.length pre = List.length j0) && true && true && true && (rf [la] && true && (rf [ep] && true && true)) && (decide (List.length pre = List.length j0) && (decide (k4 pre = k4 j0) && (decide (a4 pre = a4 j0) && (decide (b4 pre = b4 j0) && (decide (g4 pre = g4 j0) && true))) && true) && (rf [k1, k2] && (rf [a1, a2] && (rf [b1, b2] && (rf [g1, g2] && true))) && true && true)))) (.need (okPt x0 { y := m0, n := n, a := u0 }) (.all (PUnit) fun (y1 : PUnit) => (.imp (True) (.leaf (.ret, mkT 1 [], [(0, some (.segs [{ n := 1, st := 1, cols := [.val [.slice (.own 1 0 0 4) (List.length (Pl.pre i0)) none]] }, w0, { n := 1, st := 1, cols := [.int .i64 [Pl.la i0]] }, { n := 1, st := 1, cols := [.int .i64 [Pl.ep i0]] }])), (1, some (.segs [{ n := List.length (Pl.pre i0), st := 4, cols := [.int .i64 (k4 (Pl.pre i0)), .int .i64 (a4 (Pl.pre i0)), .int .i64 (b4 (Pl.pre i0)), .int .i64 (g4 (Pl.pre i0))] }])), (2, some (.segs [{ n := 2, st := 5, cols := [.int .i64 [O4.k (Pl.o1 i0), O4.k (Pl.o2 i0)], .int .i64 [O4.a (Pl.o1 i0), O4.a (Pl.o2 i0)], .int .i64 [O4.b (Pl.o1 i0), O4.b (Pl.o2 i0)], .int .i64 [O4.g (Pl.o1 i0), O4.g (Pl.o2 i0)], .nilc 2] }]))])))))))) := by kernel_rfl
theorem pl1000 (E : Nat → Nat → Seg) (pre q1 q2 : List O4) (k1 a1 b1 g1 k2 a2 b2 g2 la ep : Int) (n a : Int) : ((execT (W E noS noL) noT 3 400 15 pPt (codeOf 15 pPt) (mkT 82 ((ptD ⟨true, false, false, false⟩).ins ⟨⟨pre, ⟨k1, a1, b1, g1⟩, q1, ⟨k2, a2, b2, g2⟩, q2, la, ep⟩, n, a⟩)) ⟨hp 0 ((ptD ⟨true, false, false, false⟩).blks ⟨⟨pre, ⟨k1, a1, b1, g1⟩, q1, ⟨k2, a2, b2, g2⟩, q2, la, ep⟩, n, a⟩), 4, [], []⟩ leafQ)).take 3 (.c (.c (.x (.c (.f (csQ 12 (.leaf [0, 1, 2] 0)))) (.x (csQ 9 (.x (.c (.n (.n (.c (.c (.c (.leaf [0, 1, 2] 0))))))) (.c (.c (.leaf [0, 1, 2] 0))))) (csQ 12 (.leaf [0, 1, 2] 0)))))) =
(let x0 := (List.length q1)
let u0 : Blk := (.segs [⟨1, 5, [.int .i64 [k1], .int .i64 [a1], .int .i64 [b1], .int .i64 [g1], .val [.slice (.own 2 0 0 4) x0 none]]⟩])
let v0 : Blk := (.segs [⟨List.length q1, 4, [.int .i64 (k4 q1), .int .i64 (a4 q1), .int .i64 (b4 q1), .int .i64 (g4 q1)]⟩])
let j0 : Blk := (.segs [⟨1, 1, [.val [.nils]]⟩, ⟨1, 1, [.val [.slice (.own 1 0 0 5) 1 none]]⟩, ⟨1, 1, [.int .i64 [la]]⟩, ⟨1, 1, [.int .i64 [ep]]⟩])
let i0 : TreeQ State := (.leaf (.exit 0, mkT 82 [], [(0, some j0), (1, some u0), (2, some v0)]))
let w0 := (wr .i64 (n - a) - 1)
let m0 := (0 + Int.toNat (wr .i64 w0))
(.br (decide (n = a)) (.but (decide (a < n)) (.leaf (.exit 0, mkT 82 [], [(0, some j0), (1, some (.segs [⟨1, 5, [.int .i64 [99], .int .i64 [0], .int .i64 [0], .int .i64 [0], .val [.slice (.own 2 0 0 4) x0 none]]⟩])), (2, some v0)]))) (.br (decide (a < n)) (.br (decide (n ≤ wr .i64 (a + (↑x0 : Int)))) (.need (decide (0 ≤ wr .i64 w0) && decide (wr .i64 w0 < (↑x0 : Int))) (.need (decide (0 + Int.toNat (wr .i64 w0) < List.length q1)) (.leaf (.exit 0, mkT 82 [], [(0, some j0), (1, some u0), (2, some (.segs [⟨List.length q1, 4, [.int .i64 (List.set (k4 q1) m0 99), .int .i64 (List.set (a4 q1) m0 0), .int .i64 (List.set (b4 q1) m0 0), .int .i64 (List.set (g4 q1) m0 0)]⟩]))])))) i0) i0))) := by kernel_rfl
theorem pf1000 (E : Nat → Nat → Seg) (pre q1 q2 : List O4) (k1 a1 b1 g1 k2 a2 b2 g2 la ep : Int) (n : Int) : ((callT Try.prog E (W E noS noL) (ptT ⟨true, false, false, false⟩) 3 15 [.ptr (.own 0 0 0 0), .int .i64 n, badV] ⟨hp 0 (Pl.inB ⟨true, false, false, false⟩ ⟨pre, ⟨k1, a1, b1, g1⟩, q1, ⟨k2, a2, b2, g2⟩, q2, la, ep⟩), 3, [], []⟩)).take 3 (.x (.leaf [] 0) (.c (.n (.n (.a (.i (.leaf [0, 1, 2] 0))))))) =
(let m0 : Pl := { pre := [], o1 := { k := k1, a := a1, b := b1, g := g1 }, q1 := un4 (k4 q1) (a4 q1) (b4 q1) (g4 q1), o2 := z4, q2 := [], la := la, ep := ep }
let u0 : Sh := { e := true, f := false, t := false, u := false }
let i0 := (putP u0 m0 n)
let j0 := (un4 (k4 q1) (a4 q1) (b4 q1) (g4 q1))
(.br (decide (n < 0)) .dead (.need (rf n && true && (rf [la] && true && (rf [ep] && true && true) && (rf [k1] && (rf [a1] && (rf [b1] && (rf [g1] && (decide (List.length q1 = List.length j0) && true && true && true)))) && true && (decide (List.length q1 = List.length j0) && (decide (k4 q1 = k4 j0) && (decide (a4 q1 = a4 j0) && (decide (b4 q1 = b4 j0) && (decide (g4 q1 = g4 j0) && true))) && true) && true)))) (.need (okPt u0 { y := m0, n := n, a := 0 }) (.all (PUnit) fun (y1 : PUnit) => (.imp (True) (.leaf (.ret, mkT 1 [], [(0, some (.segs [⟨1, 1, [.val [.nils]]⟩, ⟨1, 1, [.val [.slice (.own 1 0 0 5) 1 none]]⟩, { n := 1, st := 1, cols := [.int .i64 [Pl.la i0]] }, { n := 1, st := 1, cols := [.int .i64 [Pl.ep i0]] }])), (1, some (.segs [{ n := 1, st := 5, cols := [.int .i64 [O4.k (Pl.o1 i0)], .int .i64 [O4.a (Pl.o1 i0)], .int .i64 [O4.b (Pl.o1 i0)], .int .i64 [O4.g (Pl.o1 i0)], .val [.slice (.own 2 0 0 4) (List.length (Pl.q1 i0)) none]] }])), (2, some (.segs [{ n := List.length (Pl.q1 i0), st := 4, cols := [.int .i64 (k4 (Pl.q1 i0)), .int .i64 (a4 (Pl.q1 i0)), .int .i64 (b4 (Pl.q1 i0)), .int .i64 (g4 (Pl.q1 i0))] }]))])))))))) := by kernel_rfl
theorem pl1010 (E : Nat → Nat → Seg) (pre q1 q2 : List O4) (k1 a1 b1 g1 k2 a2 b2 g2 la ep : Int) (n a : Int) : ((execT (W E noS noL) noT 4 400 15 pPt (codeOf 15 pPt) (mkT 82 ((ptD ⟨true, false, true, false⟩).ins ⟨⟨pre, ⟨k1, a1, b1, g1⟩, q1, ⟨k2, a2, b2, g2⟩, q2, la, ep⟩, n, a⟩)) ⟨hp 0 ((ptD ⟨true, false, true, false⟩).blks ⟨⟨pre, ⟨k1, a1, b1, g1⟩, q1, ⟨k2, a2, b2, g2⟩, q2, la, ep⟩, n, a⟩), 5, [], []⟩ leafQ)).take 4 (.c (.c (.x (.c (.f (csQ 13 (.x (.c (.f (csQ 12 (.leaf [0, 1, 2, 3] 0)))) (.x (csQ 9 (.x (.c (.n (.n (.c (.c (.c (.leaf [0, 1, 2, 3] 0))))))) (.c (.c (.leaf [0, 1, 2, 3] 0))))) (csQ 12 (.leaf [0, 1, 2, 3] 0))))))) (.x (csQ 9 (.x (.c (.n (.n (csQ 4 (.x (.c (.f (csQ 12 (.leaf [0, 1, 2, 3] 0)))) (.x (csQ 9 (.x (.c (.n (.n (.c (.c (.c (.leaf [0, 1, 2, 3] 0))))))) (.c (.c (.leaf [0, 1, 2, 3] 0))))) (csQ 12 (.leaf [0, 1, 2, 3] 0)))))))) (.c (.c (.c (.x (.c (.f (csQ 12 (.leaf [0, 1, 2, 3] 0)))) (.x (csQ 9 (.x (.c (.n (.n (.c (.c (.c (.leaf [0, 1, 2, 3] 0))))))) (.c (.c (.leaf [0, 1, 2, 3] 0))))) (csQ 12 (.leaf [0, 1, 2, 3] 0))))))))) (csQ 13 (.x (.c (.f (csQ 12 (.leaf [0, 1, 2, 3] 0)))) (.x (csQ 9 (.x (.c (.n (.n (.c (.c (.c (.leaf [0, 1, 2, 3] 0))))))) (.c (.c (.leaf [0, 1, 2, 3] 0))))) (csQ 12 (.leaf [0, 1, 2, 3] 0))))))))) =
(let v2 := (List.length q2)
let z1 := (List.length q1)
let q0 := (wr .i64 (a + 1) + (↑z1 : Int))
let v1 : Bool := (decide (n ≤ wr .i64 (wr .i64 q0 + (↑v2 : Int))))
let x0 : Blk := (.segs [⟨List.length q1, 4, [.int .i64 (k4 q1), .int .i64 (a4 q1), .int .i64 (b4 q1), .int .i64 (g4 q1)]⟩])
let j0 : Blk := (.segs [⟨1, 1, [.val [.nils]]⟩, ⟨1, 1, [.val [.slice (.own 1 0 0 5) 2 none]]⟩, ⟨1, 1, [.int .i64 [la]]⟩, ⟨1, 1, [.int .i64 [ep]]⟩])
let x2 : Bool := (decide (n = wr .i64 q0))
let m0 := (wr .i64 (n - wr .i64 q0) - 1)
let i2 := (0 + Int.toNat (wr .i64 m0))
let z0 : Blk := (.segs [⟨List.length q2, 4, [.int .i64 (List.set (k4 q2) i2 99), .int .i64 (List.set (a4 q2) i2 0), .int .i64 (List.set (b4 q2) i2 0), .int .i64 (List.set (g4 q2) i2 0)]⟩])
let w0 : Blk := (.segs [⟨List.length q2, 4, [.int .i64 (k4 q2), .int .i64 (a4 q2), .int .i64 (b4 q2), .int .i64 (g4 q2)]⟩])
let v0 : Blk := (.segs [⟨2, 5, [.int .i64 [k1, k2], .int .i64 [a1, a2], .int .i64 [b1, b2], .int .i64 [g1, g2], .val [.slice (.own 2 0 0 4) z1 none, .slice (.own 3 0 0 4) v2 none]]⟩])
let m1 : Bool := (decide (0 ≤ wr .i64 m0) && decide (wr .i64 m0 < (↑v2 : Int)))
let x1 : Bool := (decide (0 + Int.toNat (wr .i64 m0) < List.length q2))
let w1 : Bool := (decide (wr .i64 q0 < n))
let j1 : Blk := (.segs [⟨2, 5, [.int .i64 [k1, 99], .int .i64 [a1, 0], .int .i64 [b1, 0], .int .i64 [g1, 0], .val [.slice (.own 2 0 0 4) z1 none, .slice (.own 3 0 0 4) v2 none]]⟩])
let u2 : TreeQ State := (.leaf (.exit 0, mkT 82 [], [(0, some j0), (1, some v0), (2, some x0), (3, some w0)]))
let i0 : TreeQ State := (.br x2 (.but w1 (.leaf (.exit 0, mkT 82 [], [(0, some j0), (1, some j1), (2, some x0), (3, some w0)]))) (.br w1 (.br v1 (.need m1 (.need x1 (.leaf (.exit 0, mkT 82 [], [(0, some j0), (1, some v0), (2, some x0), (3, some z0)])))) u2) u2))
let w2 := (wr .i64 (n - a) - 1)
let u1 := (0 + Int.toNat (wr .i64 w2))
let u0 : Blk := (.segs [⟨List.length q1, 4, [.int .i64 (List.set (k4 q1) u1 99), .int .i64 (List.set (a4 q1) u1 0), .int .i64 (List.set (b4 q1) u1 0), .int .i64 (List.set (g4 q1) u1 0)]⟩])
let i1 : Blk := (.segs [⟨2, 5, [.int .i64 [99, k2], .int .i64 [0, a2], .int .i64 [0, b2], .int .i64 [0, g2], .val [.slice (.own 2 0 0 4) z1 none, .slice (.own 3 0 0 4) v2 none]]⟩])
let j2 : TreeQ State := (.leaf (.exit 0, mkT 82 [], [(0, some j0), (1, some i1), (2, some x0), (3, some w0)]))
let m2 : TreeQ State := (.leaf (.exit 0, mkT 82 [], [(0, some j0), (1, some v0), (2, some u0), (3, some w0)]))
(.br (decide (n = a)) (.but (decide (a < n)) (.br x2 (.but w1 (.leaf (.exit 0, mkT 82 [], [(0, some j0), (1, some (.segs [⟨2, 5, [.int .i64 [99, 99], .int .i64 [0, 0], .int .i64 [0, 0], .int .i64 [0, 0], .val [.slice (.own 2 0 0 4) z1 none, .slice (.own 3 0 0 4) v2 none]]⟩])), (2, some x0), (3, some w0)]))) (.br w1 (.br v1 (.need m1 (.need x1 (.leaf (.exit 0, mkT 82 [], [(0, some j0), (1, some i1), (2, some x0), (3, some z0)])))) j2) j2))) (.br (decide (a < n)) (.br (decide (n ≤ wr .i64 (a + (↑z1 : Int)))) (.need (decide (0 ≤ wr .i64 w2) && decide (wr .i64 w2 < (↑z1 : Int))) (.need (decide (0 + Int.toNat (wr .i64 w2) < List.length q1)) (.br x2 (.but w1 (.leaf (.exit 0, mkT 82 [], [(0, some j0), (1, some j1), (2, some u0), (3, some w0)]))) (.br w1 (.br v1 (.need m1 (.need x1 (.leaf (.exit 0, mkT 82 [], [(0, some j0), (1, some v0), (2, some u0), (3, some z0)])))) m2) m2)))) i0) i0))) := by kernel_rfl
theorem pf1010 (E : Nat → Nat → Seg) (pre q1 q2 : List O4) (k1 a1 b1 g1 k2 a2 b2 g2 la ep : Int) (n : Int) : ((callT Try.prog E (W E noS noL) (ptT ⟨true, false, true, false⟩) 4 15 [.ptr (.own 0 0 0 0), .int .i64 n, badV] ⟨hp 0 (Pl.inB ⟨true, false, true, false⟩ ⟨pre, ⟨k1, a1, b1, g1⟩, q1, ⟨k2, a2, b2, g2⟩, q2, la, ep⟩), 4, [], []⟩)).take 4 (.x (.leaf [] 0) (.c (.n (.n (.a (.i (.leaf [0, 1, 2, 3] 0))))))) =
(let v0 : Sh := { e := true, f := false, t := true, u := false }
let j0 : Pl := { pre := [], o1 := { k := k1, a := a1, b := b1, g := g1 }, q1 := un4 (k4 q1) (a4 q1) (b4 q1) (g4 q1), o2 := { k := k2, a := a2, b := b2, g := g2 }, q2 := un4 (k4 q2) (a4 q2) (b4 q2) (g4 q2), la := la, ep := ep }
let i0 := (putP v0 j0 n)
let m0 := (un4 (k4 q1) (a4 q1) (b4 q1) (g4 q1))
let u0 := (un4 (k4 q2) (a4 q2) (b4 q2) (g4 q2))
(.br (decide (n < 0)) .dead (.need (rf n && true && (rf [la] && true && (rf [ep] && true && true) && (rf [k1, k2] && (rf [a1, a2] && (rf [b1, b2] && (rf [g1, g2] && (decide (List.length q1 = List.length m0) && true && (decide (List.length q2 = List.length u0) && true && true) && true)))) && true && (decide (List.length q1 = List.length m0) && (decide (k4 q1 = k4 m0) && (decide (a4 q1 = a4 m0) && (decide (b4 q1 = b4 m0) && (decide (g4 q1 = g4 m0) && true))) && true) && (decide (List.length q2 = List.length u0) && (decide (k4 q2 = k4 u0) && (decide (a4 q2 = a4 u0) && (decide (b4 q2 = b4 u0) && (decide (g4 q2 = g4 u0) && true))) && true) && true))))) (.need (okPt v0 { y := j0, n := n, a := 0 }) (.all (PUnit) fun (y1 : PUnit) => (.imp (True) (.leaf (.ret, mkT 1 [], [(0, some (.segs [⟨1, 1, [.val [.nils]]⟩, ⟨1, 1, [.val [.slice (.own 1 0 0 5) 2 none]]⟩, { n := 1, st := 1, cols := [.int .i64 [Pl.la i0]] }, { n := 1, st := 1, cols := [.int .i64 [Pl.ep i0]] }])), (1, some (.segs [{ n := 2, st := 5, cols := [.int .i64 [O4.k (Pl.o1 i0), O4.k (Pl.o2 i0)], .int .i64 [O4.a (Pl.o1 i0), O4.a (Pl.o2 i0)], .int .i64 [O4.b (Pl.o1 i0), O4.b (Pl.o2 i0)], .int .i64 [O4.g (Pl.o1 i0), O4.g (Pl.o2 i0)], .val [.slice (.own 2 0 0 4) (List.length (Pl.q1 i0)) none, .slice (.own 3 0 0 4) (List.length (Pl.q2 i0)) none]] }])), (2, some (.segs [{ n := List.length (Pl.q1 i0), st := 4, cols := [.int .i64 (k4 (Pl.q1 i0)), .int .i64 (a4 (Pl.q1 i0)), .int .i64 (b4 (Pl.q1 i0)), .int .i64 (g4 (Pl.q1 i0))] }])), (3, some (.segs [{ n := List.length (Pl.q2 i0), st := 4, cols := [.int .i64 (k4 (Pl.q2 i0)), .int .i64 (a4 (Pl.q2 i0)), .int .i64 (b4 (Pl.q2 i0)), .int .i64 (g4 (Pl.q2 i0))] }]))])))))))) := by kernel_rfl
theorem pl1011 (E : Nat → Nat → Seg) (pre q1 q2 : List O4) (k1 a1 b1 g1 k2 a2 b2 g2 la ep : Int) (n a : Int) : ((execT (W E noS noL) noT 3 400 15 pPt (codeOf 15 pPt) (mkT 82 ((ptD ⟨true, false, true, true⟩).ins ⟨⟨pre, ⟨k1, a1, b1, g1⟩, q1, ⟨k2, a2, b2, g2⟩, q2, la, ep⟩, n, a⟩)) ⟨hp 0 ((ptD ⟨true, false, true, true⟩).blks ⟨⟨pre, ⟨k1, a1, b1, g1⟩, q1, ⟨k2, a2, b2, g2⟩, q2, la, ep⟩, n, a⟩), 4, [], []⟩ leafQ)).take 3 (.c (.c (.x (.c (.f (csQ 13 (.x (.c (.f (csQ 12 (.leaf [0, 1, 2] 0)))) (.x (csQ 9 (.x (.c (.leaf [] 0)) (.c (.c (.leaf [0, 1, 2] 0))))) (csQ 12 (.leaf [0, 1, 2] 0))))))) (.x (csQ 9 (.x (.c (.n (.n (csQ 4 (.x (.c (.f (csQ 12 (.leaf [0, 1, 2] 0)))) (.x (csQ 9 (.x (.c (.leaf [] 0)) (.c (.c (.leaf [0, 1, 2] 0))))) (csQ 12 (.leaf [0, 1, 2] 0)))))))) (.c (.c (.c (.x (.c (.f (csQ 12 (.leaf [0, 1, 2] 0)))) (.x (csQ 9 (.x (.c (.leaf [] 0)) (.c (.c (.leaf [0, 1, 2] 0))))) (csQ 12 (.leaf [0, 1, 2] 0))))))))) (csQ 13 (.x (.c (.f (csQ 12 (.leaf [0, 1, 2] 0)))) (.x (csQ 9 (.x (.c (.leaf [] 0)) (.c (.c (.leaf [0, 1, 2] 0))))) (csQ 12 (.leaf [0, 1, 2] 0))))))))) =
(let j1 := (List.length q1)
let v0 := (wr .i64 (a + 1) + (↑j1 : Int))
let i1 : Bool := (decide (wr .i64 v0 < n))
let u0 : Blk := (.segs [⟨List.length q1, 4, [.int .i64 (k4 q1), .int .i64 (a4 q1), .int .i64 (b4 q1), .int .i64 (g4 q1)]⟩])
let w0 : Blk := (.segs [⟨2, 5, [.int .i64 [k1, k2], .int .i64 [a1, a2], .int .i64 [b1, b2], .int .i64 [g1, g2], .val [.slice (.own 2 0 0 4) j1 none, .nils]]⟩])
let j0 : Blk := (.segs [⟨1, 1, [.val [.nils]]⟩, ⟨1, 1, [.val [.slice (.own 1 0 0 5) 2 none]]⟩, ⟨1, 1, [.int .i64 [la]]⟩, ⟨1, 1, [.int .i64 [ep]]⟩])
let v1 : TreeQ State := (.leaf (.exit 0, mkT 82 [], [(0, some j0), (1, some w0), (2, some u0)]))
let x1 : Bool := (decide (n = wr .i64 v0))
let m1 : Bool := (decide (n ≤ wr .i64 (wr .i64 v0 + 0)))
let z0 : Blk := (.segs [⟨2, 5, [.int .i64 [k1, 99], .int .i64 [a1, 0], .int .i64 [b1, 0], .int .i64 [g1, 0], .val [.slice (.own 2 0 0 4) j1 none, .nils]]⟩])
let i0 : TreeQ State := (.br x1 (.but i1 (.leaf (.exit 0, mkT 82 [], [(0, some j0), (1, some z0), (2, some u0)]))) (.br i1 (.br m1 .dead v1) v1))
let w1 := (wr .i64 (n - a) - 1)
let q0 := (0 + Int.toNat (wr .i64 w1))
let m0 : Blk := (.segs [⟨List.length q1, 4, [.int .i64 (List.set (k4 q1) q0 99), .int .i64 (List.set (a4 q1) q0 0), .int .i64 (List.set (b4 q1) q0 0), .int .i64 (List.set (g4 q1) q0 0)]⟩])
let x0 : TreeQ State := (.leaf (.exit 0, mkT 82 [], [(0, some j0), (1, some (.segs [⟨2, 5, [.int .i64 [99, k2], .int .i64 [0, a2], .int .i64 [0, b2], .int .i64 [0, g2], .val [.slice (.own 2 0 0 4) j1 none, .nils]]⟩])), (2, some u0)]))
let u1 : TreeQ State := (.leaf (.exit 0, mkT 82 [], [(0, some j0), (1, some w0), (2, some m0)]))
(.br (decide (n = a)) (.but (decide (a < n)) (.br x1 (.but i1 (.leaf (.exit 0, mkT 82 [], [(0, some j0), (1, some (.segs [⟨2, 5, [.int .i64 [99, 99], .int .i64 [0, 0], .int .i64 [0, 0], .int .i64 [0, 0], .val [.slice (.own 2 0 0 4) j1 none, .nils]]⟩])), (2, some u0)]))) (.br i1 (.br m1 .dead x0) x0))) (.br (decide (a < n)) (.br (decide (n ≤ wr .i64 (a + (↑j1 : Int)))) (.need (decide (0 ≤ wr .i64 w1) && decide (wr .i64 w1 < (↑j1 : Int))) (.need (decide (0 + Int.toNat (wr .i64 w1) < List.length q1)) (.br x1 (.but i1 (.leaf (.exit 0, mkT 82 [], [(0, some j0), (1, some z0), (2, some m0)]))) (.br i1 (.br m1 .dead u1) u1)))) i0) i0))) := by kernel_rfl
theorem pf1011 (E : Nat → Nat → Seg) (pre q1 q2 : List O4) (k1 a1 b1 g1 k2 a2 b2 g2 la ep : Int) (n : Int) : ((callT Try.prog E (W E noS noL) (ptT ⟨true, false, true, true⟩) 3 15 [.ptr (.own 0 0 0 0), .int .i64 n, badV] ⟨hp 0 (Pl.inB ⟨true, false, true, true⟩ ⟨pre, ⟨k1, a1, b1, g1⟩, q1, ⟨k2, a2, b2, g2⟩, q2, la, ep⟩), 3, [], []⟩)).take 3 (.x (.leaf [] 0) (.c (.n (.n (.a (.i (.leaf [0, 1, 2] 0))))))) =
(let m0 : Pl := { pre := [], o1 := { k := k1, a := a1, b := b1, g := g1 }, q1 := un4 (k4 q1) (a4 q1) (b4 q1) (g4 q1), o2 := { k := k2, a := a2, b := b2, g := g2 }, q2 := [], la := la, ep := ep }
let u0 : Sh := { e := true, f := false, t := true, u := true }
let i0 := (putP u0 m0 n)
let j0 := (un4 (k4 q1) (a4 q1) (b4 q1) (g4 q1))
(.br (decide (n < 0)) .dead (.need (rf n && true && (rf [la] && true && (rf [ep] && true && true) && (rf [k1, k2] && (rf [a1, a2] && (rf [b1, b2] && (rf [g1, g2] && (decide (List.length q1 = List.length j0) && true && true && true)))) && true && (decide (List.length q1 = List.length j0) && (decide (k4 q1 = k4 j0) && (decide (a4 q1 = a4 j0) && (decide (b4 q1 = b4 j0) && (decide (g4 q1 = g4 j0) && true))) && true) && true)))) (.need (okPt u0 { y := m0, n := n, a := 0 }) (.all (PUnit) fun (y1 : PUnit) => (.imp (True) (.leaf (.ret, mkT 1 [], [(0, some (.segs [⟨1, 1, [.val [.nils]]⟩, ⟨1, 1, [.val [.slice (.own 1 0 0 5) 2 none]]⟩, { n := 1, st := 1, cols := [.int .i64 [Pl.la i0]] }, { n := 1, st := 1, cols := [.int .i64 [Pl.ep i0]] }])), (1, some (.segs [{ n := 2, st := 5, cols := [.int .i64 [O4.k (Pl.o1 i0), O4.k (Pl.o2 i0)], .int .i64 [O4.a (Pl.o1 i0), O4.a (Pl.o2 i0)], .int .i64 [O4.b (Pl.o1 i0), O4.b (Pl.o2 i0)], .int .i64 [O4.g (Pl.o1 i0), O4.g (Pl.o2 i0)], .val [.slice (.own 2 0 0 4) (List.length (Pl.q1 i0)) none, .nils]] }])), (2, some (.segs [{ n := List.length (Pl.q1 i0), st := 4, cols := [.int .i64 (k4 (Pl.q1 i0)), .int .i64 (a4 (Pl.q1 i0)), .int .i64 (b4 (Pl.q1 i0)), .int .i64 (g4 (Pl.q1 i0))] }]))])))))))) := by kernel_rfl
theorem pl1100 (E : Nat → Nat → Seg) (pre q1 q2 : List O4) (k1 a1 b1 g1 k2 a2 b2 g2 la ep : Int) (n a : Int) : ((execT (W E noS noL) noT 2 400 15 pPt (codeOf 15 pPt) (mkT 82 ((ptD ⟨true, true, false, false⟩).ins ⟨⟨pre, ⟨k1, a1, b1, g1⟩, q1, ⟨k2, a2, b2, g2⟩, q2, la, ep⟩, n, a⟩)) ⟨hp 0 ((ptD ⟨true, true, false, false⟩).blks ⟨⟨pre, ⟨k1, a1, b1, g1⟩, q1, ⟨k2, a2, b2, g2⟩, q2, la, ep⟩, n, a⟩), 3, [], []⟩ leafQ)).take 2 (.c (.c (.x (.c (.f (csQ 12 (.leaf [0, 1] 0)))) (.x (csQ 9 (.x (.c (.leaf [] 0)) (.c (.c (.leaf [0, 1] 0))))) (csQ 12 (.leaf [0, 1] 0)))))) =
(let i0 : Blk := (.segs [⟨1, 1, [.val [.nils]]⟩, ⟨1, 1, [.val [.slice (.own 1 0 0 5) 1 none]]⟩, ⟨1, 1, [.int .i64 [la]]⟩, ⟨1, 1, [.int .i64 [ep]]⟩])
let j0 : TreeQ State := (.leaf (.exit 0, mkT 82 [], [(0, some i0), (1, some (.segs [⟨1, 5, [.int .i64 [k1], .int .i64 [a1], .int .i64 [b1], .int .i64 [g1], .nilc 1]⟩]))]))
(.br (decide (n = a)) (.but (decide (a < n)) (.leaf (.exit 0, mkT 82 [], [(0, some i0), (1, some (.segs [⟨1, 5, [.int .i64 [99], .int .i64 [0], .int .i64 [0], .int .i64 [0], .nilc 1]⟩]))]))) (.br (decide (a < n)) (.br (decide (n ≤ wr .i64 (a + 0))) .dead j0) j0))) := by kernel_rfl
theorem pf1100 (E : Nat → Nat → Seg) (pre q1 q2 : List O4) (k1 a1 b1 g1 k2 a2 b2 g2 la ep : Int) (n : Int) : ((callT Try.prog E (W E noS noL) (ptT ⟨true, true, false, false⟩) 2 15 [.ptr (.own 0 0 0 0), .int .i64 n, badV] ⟨hp 0 (Pl.inB ⟨true, true, false, false⟩ ⟨pre, ⟨k1, a1, b1, g1⟩, q1, ⟨k2, a2, b2, g2⟩, q2, la, ep⟩), 2, [], []⟩)).take 2 (.x (.leaf [] 0) (.c (.n (.n (.a (.i (.leaf [0, 1] 0))))))) =
(let m0 : Sh := { e := true, f := true, t := false, u := false }
let j0 : Pl := { pre := [], o1 := { k := k1, a := a1, b := b1, g := g1 }, q1 := [], o2 := z4, q2 := [], la := la, ep := ep }
let i0 := (putP m0 j0 n)
(.br (decide (n < 0)) .dead (.need (rf n && true && (rf [la] && true && (rf [ep] && true && true) && (rf [k1] && (rf [a1] && (rf [b1] && (rf [g1] && true))) && true && true))) (.need (okPt m0 { y := j0, n := n, a := 0 }) (.all (PUnit) fun (y1 : PUnit) => (.imp (True) (.leaf (.ret, mkT 1 [], [(0, some (.segs [⟨1, 1, [.val [.nils]]⟩, ⟨1, 1, [.val [.slice (.own 1 0 0 5) 1 none]]⟩, { n := 1, st := 1, cols := [.int .i64 [Pl.la i0]] }, { n := 1, st := 1, cols := [.int .i64 [Pl.ep i0]] }])), (1, some (.segs [{ n := 1, st := 5, cols := [.int .i64 [O4.k (Pl.o1 i0)], .int .i64 [O4.a (Pl.o1 i0)], .int .i64 [O4.b (Pl.o1 i0)], .int .i64 [O4.g (Pl.o1 i0)], .nilc 1] }]))])))))))) := by kernel_rfl
theorem pl1110 (E : Nat → Nat → Seg) (pre q1 q2 : List O4) (k1 a1 b1 g1 k2 a2 b2 g2 la ep : Int) (n a : Int) : ((execT (W E noS noL) noT 3 400 15 pPt (codeOf 15 pPt) (mkT 82 ((ptD ⟨true, true, true, false⟩).ins ⟨⟨pre, ⟨k1, a1, b1, g1⟩, q1, ⟨k2, a2, b2, g2⟩, q2, la, ep⟩, n, a⟩)) ⟨hp 0 ((ptD ⟨true, true, true, false⟩).blks ⟨⟨pre, ⟨k1, a1, b1, g1⟩, q1, ⟨k2, a2, b2, g2⟩, q2, la, ep⟩, n, a⟩), 4, [], []⟩ leafQ)).take 3 (.c (.c (.x (.c (.f (csQ 13 (.x (.c (.f (csQ 12 (.leaf [0, 1, 2] 0)))) (.x (csQ 9 (.x (.c (.n (.n (.c (.c (.c (.leaf [0, 1, 2] 0))))))) (.c (.c (.leaf [0, 1, 2] 0))))) (csQ 12 (.leaf [0, 1, 2] 0))))))) (.x (csQ 9 (.x (.c (.leaf [] 0)) (.c (.c (.c (.x (.c (.f (csQ 12 (.leaf [0, 1, 2] 0)))) (.x (csQ 9 (.x (.c (.n (.n (.c (.c (.c (.leaf [0, 1, 2] 0))))))) (.c (.c (.leaf [0, 1, 2] 0))))) (csQ 12 (.leaf [0, 1, 2] 0))))))))) (csQ 13 (.x (.c (.f (csQ 12 (.leaf [0, 1, 2] 0)))) (.x (csQ 9 (.x (.c (.n (.n (.c (.c (.c (.leaf [0, 1, 2] 0))))))) (.c (.c (.leaf [0, 1, 2] 0))))) (csQ 12 (.leaf [0, 1, 2] 0))))))))) =
(let u0 : Blk := (.segs [⟨List.length q2, 4, [.int .i64 (k4 q2), .int .i64 (a4 q2), .int .i64 (b4 q2), .int .i64 (g4 q2)]⟩])
let q0 := (List.length q2)
let v0 : Blk := (.segs [⟨2, 5, [.int .i64 [k1, k2], .int .i64 [a1, a2], .int .i64 [b1, b2], .int .i64 [g1, g2], .val [.nils, .slice (.own 2 0 0 4) q0 none]]⟩])
let j0 : Blk := (.segs [⟨1, 1, [.val [.nils]]⟩, ⟨1, 1, [.val [.slice (.own 1 0 0 5) 2 none]]⟩, ⟨1, 1, [.int .i64 [la]]⟩, ⟨1, 1, [.int .i64 [ep]]⟩])
let v1 : TreeQ State := (.leaf (.exit 0, mkT 82 [], [(0, some j0), (1, some v0), (2, some u0)]))
let z0 := (wr .i64 (a + 1) + 0)
let m0 := (wr .i64 (n - wr .i64 z0) - 1)
let i1 := (0 + Int.toNat (wr .i64 m0))
let x0 : Blk := (.segs [⟨List.length q2, 4, [.int .i64 (List.set (k4 q2) i1 99), .int .i64 (List.set (a4 q2) i1 0), .int .i64 (List.set (b4 q2) i1 0), .int .i64 (List.set (g4 q2) i1 0)]⟩])
let x1 : Bool := (decide (n ≤ wr .i64 (wr .i64 z0 + (↑q0 : Int))))
let m1 : Bool := (decide (0 ≤ wr .i64 m0) && decide (wr .i64 m0 < (↑q0 : Int)))
let w1 : Bool := (decide (0 + Int.toNat (wr .i64 m0) < List.length q2))
let j1 : Bool := (decide (wr .i64 z0 < n))
let i0 : TreeQ State := (.br (decide (n = wr .i64 z0)) (.but j1 (.leaf (.exit 0, mkT 82 [], [(0, some j0), (1, some (.segs [⟨2, 5, [.int .i64 [k1, 99], .int .i64 [a1, 0], .int .i64 [b1, 0], .int .i64 [g1, 0], .val [.nils, .slice (.own 2 0 0 4) q0 none]]⟩])), (2, some u0)]))) (.br j1 (.br x1 (.need m1 (.need w1 (.leaf (.exit 0, mkT 82 [], [(0, some j0), (1, some v0), (2, some x0)])))) v1) v1))
let w0 : Blk := (.segs [⟨2, 5, [.int .i64 [99, k2], .int .i64 [0, a2], .int .i64 [0, b2], .int .i64 [0, g2], .val [.nils, .slice (.own 2 0 0 4) q0 none]]⟩])
let u1 : TreeQ State := (.leaf (.exit 0, mkT 82 [], [(0, some j0), (1, some w0), (2, some u0)]))
(.br (decide (n = a)) (.but (decide (a < n)) (.br (decide (n = wr .i64 z0)) (.but j1 (.leaf (.exit 0, mkT 82 [], [(0, some j0), (1, some (.segs [⟨2, 5, [.int .i64 [99, 99], .int .i64 [0, 0], .int .i64 [0, 0], .int .i64 [0, 0], .val [.nils, .slice (.own 2 0 0 4) q0 none]]⟩])), (2, some u0)]))) (.br j1 (.br x1 (.need m1 (.need w1 (.leaf (.exit 0, mkT 82 [], [(0, some j0), (1, some w0), (2, some x0)])))) u1) u1))) (.br (decide (a < n)) (.br (decide (n ≤ wr .i64 (a + 0))) .dead i0) i0))) := by kernel_rfl
theorem pf1110 (E : Nat → Nat → Seg) (pre q1 q2 : List O4) (k1 a1 b1 g1 k2 a2 b2 g2 la ep : Int) (n : Int) : ((callT Try.prog E (W E noS noL) (ptT ⟨true, true, true, false⟩) 3 15 [.ptr (.own 0 0 0 0), .int .i64 n, badV] ⟨hp 0 (Pl.inB ⟨true, true, true, false⟩ ⟨pre, ⟨k1, a1, b1, g1⟩, q1, ⟨k2, a2, b2, g2⟩, q2, la, ep⟩), 3, [], []⟩)).take 3 (.x (.leaf [] 0) (.c (.n (.n (.a (.i (.leaf [0, 1, 2] 0))))))) =
(let m0 : Pl := { pre := [], o1 := { k := k1, a := a1, b := b1, g := g1 }, q1 := [], o2 := { k := k2, a := a2, b := b2, g := g2 }, q2 := un4 (k4 q2) (a4 q2) (b4 q2) (g4 q2), la := la, ep := ep }
let u0 : Sh := { e := true, f := true, t := true, u := false }
let i0 := (putP u0 m0 n)
let j0 := (un4 (k4 q2) (a4 q2) (b4 q2) (g4 q2))
(.br (decide (n < 0)) .dead (.need (rf n && true && (rf [la] && true && (rf [ep] && true && true) && (rf [k1, k2] && (rf [a1, a2] && (rf [b1, b2] && (rf [g1, g2] && (decide (List.length q2 = List.length j0) && true && true && true)))) && true && (decide (List.length q2 = List.length j0) && (decide (k4 q2 = k4 j0) && (decide (a4 q2 = a4 j0) && (decide (b4 q2 = b4 j0) && (decide (g4 q2 = g4 j0) && true))) && true) && true)))) (.need (okPt u0 { y := m0, n := n, a := 0 }) (.all (PUnit) fun (y1 : PUnit) => (.imp (True) (.leaf (.ret, mkT 1 [], [(0, some (.segs [⟨1, 1, [.val [.nils]]⟩, ⟨1, 1, [.val [.slice (.own 1 0 0 5) 2 none]]⟩, { n := 1, st := 1, cols := [.int .i64 [Pl.la i0]] }, { n := 1, st := 1, cols := [.int .i64 [Pl.ep i0]] }])), (1, some (.segs [{ n := 2, st := 5, cols := [.int .i64 [O4.k (Pl.o1 i0), O4.k (Pl.o2 i0)], .int .i64 [O4.a (Pl.o1 i0), O4.a (Pl.o2 i0)], .int .i64 [O4.b (Pl.o1 i0), O4.b (Pl.o2 i0)], .int .i64 [O4.g (Pl.o1 i0), O4.g (Pl.o2 i0)], .val [.nils, .slice (.own 2 0 0 4) (List.length (Pl.q2 i0)) none]] }])), (2, some (.segs [{ n := List.length (Pl.q2 i0), st := 4, cols := [.int .i64 (k4 (Pl.q2 i0)), .int .i64 (a4 (Pl.q2 i0)), .int .i64 (b4 (Pl.q2 i0)), .int .i64 (g4 (Pl.q2 i0))] }]))])))))))) := by kernel_rfl
theorem pl1111 (E : Nat → Nat → Seg) (pre q1 q2 : List O4) (k1 a1 b1 g1 k2 a2 b2 g2 la ep : Int) (n a : Int) : ((execT (W E noS noL) noT 2 400 15 pPt (codeOf 15 pPt) (mkT 82 ((ptD ⟨true, true, true, true⟩).ins ⟨⟨pre, ⟨k1, a1, b1, g1⟩, q1, ⟨k2, a2, b2, g2⟩, q2, la, ep⟩, n, a⟩)) ⟨hp 0 ((ptD ⟨true, true, true, true⟩).blks ⟨⟨pre, ⟨k1, a1, b1, g1⟩, q1, ⟨k2, a2, b2, g2⟩, q2, la, ep⟩, n, a⟩), 3, [], []⟩ leafQ)).take 2 (.c (.c (.x (.c (.f (csQ 13 (.x (.c (.f (csQ 12 (.leaf [0, 1] 0)))) (.x (csQ 9 (.x (.c (.leaf [] 0)) (.c (.c (.leaf [0, 1] 0))))) (csQ 12 (.leaf [0, 1] 0))))))) (.x (csQ 9 (.x (.c (.leaf [] 0)) (.c (.c (.c (.x (.c (.f (csQ 12 (.leaf [0, 1] 0)))) (.x (csQ 9 (.x (.c (.leaf [] 0)) (.c (.c (.leaf [0, 1] 0))))) (csQ 12 (.leaf [0, 1] 0))))))))) (csQ 13 (.x (.c (.f (csQ 12 (.leaf [0, 1] 0)))) (.x (csQ 9 (.x (.c (.leaf [] 0)) (.c (.c (.leaf [0, 1] 0))))) (csQ 12 (.leaf [0, 1] 0))))))))) =
(let i0 : Blk := (.segs [⟨1, 1, [.val [.nils]]⟩, ⟨1, 1, [.val [.slice (.own 1 0 0 5) 2 none]]⟩, ⟨1, 1, [.int .i64 [la]]⟩, ⟨1, 1, [.int .i64 [ep]]⟩])
let m0 : TreeQ State := (.leaf (.exit 0, mkT 82 [], [(0, some i0), (1, some (.segs [⟨2, 5, [.int .i64 [k1, k2], .int .i64 [a1, a2], .int .i64 [b1, b2], .int .i64 [g1, g2], .nilc 2]⟩]))]))
let v0 := (wr .i64 (a + 1) + 0)
let w0 : Bool := (decide (wr .i64 v0 < n))
let j0 : TreeQ State := (.br (decide (n = wr .i64 v0)) (.but w0 (.leaf (.exit 0, mkT 82 [], [(0, some i0), (1, some (.segs [⟨2, 5, [.int .i64 [k1, 99], .int .i64 [a1, 0], .int .i64 [b1, 0], .int .i64 [g1, 0], .nilc 2]⟩]))]))) (.br w0 (.br (decide (n ≤ wr .i64 (wr .i64 v0 + 0))) .dead m0) m0))
let u0 : TreeQ State := (.leaf (.exit 0, mkT 82 [], [(0, some i0), (1, some (.segs [⟨2, 5, [.int .i64 [99, k2], .int .i64 [0, a2], .int .i64 [0, b2], .int .i64 [0, g2], .nilc 2]⟩]))]))
(.br (decide (n = a)) (.but (decide (a < n)) (.br (decide (n = wr .i64 v0)) (.but w0 (.leaf (.exit 0, mkT 82 [], [(0, some i0), (1, some (.segs [⟨2, 5, [.int .i64 [99, 99], .int .i64 [0, 0], .int .i64 [0, 0], .int .i64 [0, 0], .nilc 2]⟩]))]))) (.br w0 (.br (decide (n ≤ wr .i64 (wr .i64 v0 + 0))) .dead u0) u0))) (.br (decide (a < n)) (.br (decide (n ≤ wr .i64 (a + 0))) .dead j0) j0))) := by kernel_rfl
theorem pf1111 (E : Nat → Nat → Seg) (pre q1 q2 : List O4) (k1 a1 b1 g1 k2 a2 b2 g2 la ep : Int) (n : Int) : ((callT Try.prog E (W E noS noL) (ptT ⟨true, true, true, true⟩) 2 15 [.ptr (.own 0 0 0 0), .int .i64 n, badV] ⟨hp 0 (Pl.inB ⟨true, true, true, true⟩ ⟨pre, ⟨k1, a1, b1, g1⟩, q1, ⟨k2, a2, b2, g2⟩, q2, la, ep⟩), 2, [], []⟩)).take 2 (.x (.leaf [] 0) (.c (.n (.n (.a (.i (.leaf [0, 1] 0))))))) =
(let m0 : Sh := { e := true, f := true, t := true, u := true }
let j0 : Pl := { pre := [], o1 := { k := k1, a := a1, b := b1, g := g1 }, q1 := [], o2 := { k := k2, a := a2, b := b2, g := g2 }, q2 := [], la := la, ep := ep }
let i0 := (putP m0 j0 n)
(.br (decide (n < 0)) .dead (.need (rf n && true && (rf [la] && true && (rf [ep] && true && true) && (rf [k1, k2] && (rf [a1, a2] && (rf [b1, b2] && (rf [g1, g2] && true))) && true && true))) (.need (okPt m0 { y := j0, n := n, a := 0 }) (.all (PUnit) fun (y1 : PUnit) => (.imp (True) (.leaf (.ret, mkT 1 [], [(0, some (.segs [⟨1, 1, [.val [.nils]]⟩, ⟨1, 1, [.val [.slice (.own 1 0 0 5) 2 none]]⟩, { n := 1, st := 1, cols := [.int .i64 [Pl.la i0]] }, { n := 1, st := 1, cols := [.int .i64 [Pl.ep i0]] }])), (1, some (.segs [{ n := 2, st := 5, cols := [.int .i64 [O4.k (Pl.o1 i0), O4.k (Pl.o2 i0)], .int .i64 [O4.a (Pl.o1 i0), O4.a (Pl.o2 i0)], .int .i64 [O4.b (Pl.o1 i0), O4.b (Pl.o2 i0)], .int .i64 [O4.g (Pl.o1 i0), O4.g (Pl.o2 i0)], .nilc 2] }]))])))))))) := by kernel_rfl
end Go.Proofs.Ytompijagcjjamaa

namespace Go.Proofs.Ytompijagcjjamaa
open Ab
theorem opsB_set (l : List O4) (i : Nat) : opsB (l.set i bad) = .segs [⟨l.length, 4, [.int .i64 ((k4 l).set i 99), .int .i64 ((a4 l).set i 0), .int .i64 ((b4 l).set i 0), .int .i64 ((g4 l).set i 0)]⟩] := by
  simp [opsB, k4, a4, b4, g4, List.map_set, bad]
theorem putP_pre {h : Sh} {y : Pl} {n : Int} (h1 : n < y.pre.length) : putP h y n = { y with pre := y.pre.set n.toNat bad } := by rw [putP, if_pos h1]
theorem putP_o1 {h : Sh} {y : Pl} {n : Int} (h1 : n = y.pre.length) : putP h y n = { y with o1 := bad } := by rw [putP, if_neg (by omega), if_pos h1]
theorem putP_q1 {h : Sh} {y : Pl} {n : Int} {i : Nat} (h1 : (y.pre.length : Int) < n) (h2 : n ≤ (y.pre.length : Int) + y.q1.length) (hi : i = (n - y.pre.length - 1).toNat) : putP h y n = { y with q1 := y.q1.set i bad } := by rw [putP, if_neg (by omega), if_neg (by omega), if_pos h2, hi]
theorem putP_o2 {h : Sh} {y : Pl} {n : Int} (h1 : n = (y.pre.length : Int) + 1 + y.q1.length) : putP h y n = { y with o2 := bad } := by rw [putP, if_neg (by omega), if_neg (by omega), if_neg (by omega), if_pos h1]
theorem putP_q2 {h : Sh} {y : Pl} {n : Int} {i : Nat} (h1 : (y.pre.length : Int) + 1 + y.q1.length < n) (hi : i = (n - (y.pre.length + 1 + y.q1.length) - 1).toNat) : putP h y n = { y with q2 := y.q2.set i bad } := by rw [putP, if_neg (by omega), if_neg (by omega), if_neg (by omega), if_neg (by omega), hi]
section
variable {E : Nat → Nat → Seg} {ra : Nat → Nat → Nat × Nat} {base : Nat}
theorem put_loop0000 (hE : Plain E) {x : PtX} (hN : x.y.norm ⟨false, false, false, false⟩) (hx : okPt ⟨false, false, false, false⟩ x = true) : Takes Try.prog E ra base 4 (codeOf 15 pPt) (mkT 82 ((ptD ⟨false, false, false, false⟩).ins x)) (hp 0 ((ptD ⟨false, false, false, false⟩).blks x)) fun y => PostL 82 x y (ptD ⟨false, false, false, false⟩).alts := by
  obtain ⟨⟨pre, ⟨k1, a1, b1, g1⟩, q1, ⟨k2, a2, b2, g2⟩, q2, la, ep⟩, n, a⟩ := x
  obtain ⟨hN1, hN2, hN3, hN4⟩ := hN
  simp only [Sh.u2, cond_true, cond_false, true_implies, Bool.false_eq_true, false_implies] at hN1 hN2 hN3
  simp only [okPt, lens4, Sh.N, Bool.and_eq_true, decide_eq_true_eq, cond_true, cond_false] at hx
  obtain ⟨_, ⟨l1, l2, l3⟩, ha, hn1, hn2⟩ := hx
  subst hN3
  replace hn2 := of_decide_eq_true hn2
  try simp only [List.length_nil, Int.natCast_zero, Int.ofNat_zero] at ha hn1 hn2
  have w1 : wr .i64 (a + (q1.length : Int)) = a + (q1.length : Int) := wr_in ⟨by omega, by omega⟩
  have w2 : wr .i64 (n - a) = n - a := wr_in ⟨by omega, by omega⟩
  have w3 : wr .i64 (n - a - 1) = n - a - 1 := wr_in ⟨by omega, by omega⟩
  have w4 : wr .i64 (a + 1) = a + 1 := wr_in ⟨by omega, by omega⟩
  have w5 : wr .i64 (a + 1 + (q1.length : Int)) = a + 1 + (q1.length : Int) := wr_in ⟨by omega, by omega⟩
  have w6 : wr .i64 (a + 1 + (q1.length : Int) + 0) = a + 1 + (q1.length : Int) + 0 := wr_in ⟨by omega, by omega⟩
  have w7 : wr .i64 (n - (a + 1 + (q1.length : Int))) = n - (a + 1 + (q1.length : Int)) := wr_in ⟨by omega, by omega⟩
  have w8 : wr .i64 (n - (a + 1 + (q1.length : Int)) - 1) = n - (a + 1 + (q1.length : Int)) - 1 := wr_in ⟨by omega, by omega⟩
  have w9 : wr .i64 (n - (a + 1)) = n - (a + 1) := wr_in ⟨by omega, by omega⟩
  have w10 : wr .i64 (n - (a + 1) - 1) = n - (a + 1) - 1 := wr_in ⟨by omega, by omega⟩
  have w11 : wr .i64 (a + 1 + 0) = a + 1 + 0 := wr_in ⟨by omega, by omega⟩
  have w12 : wr .i64 a = a := wr_in ⟨by omega, by omega⟩
  have fin : ∀ st, st = (AExit.exit 0, mkT 82 [], hp 0 ((putP ⟨false, false, false, false⟩ ⟨pre, ⟨k1, a1, b1, g1⟩, q1, ⟨k2, a2, b2, g2⟩, [], la, ep⟩ n).inB ⟨false, false, false, false⟩)) → PostL 82 ⟨⟨pre, ⟨k1, a1, b1, g1⟩, q1, ⟨k2, a2, b2, g2⟩, [], la, ep⟩, n, a⟩ st (ptD ⟨false, false, false, false⟩).alts := fun st h => ⟨(), trivial, h⟩
  refine takes_of_treeQ hE (W_ok noS_ok noL_ok) noT_ok (.inr (by kernel_rfl)) (hp_below _) (pl0000 E pre q1 [] k1 a1 b1 g1 k2 a2 b2 g2 la ep n a) ?_
  simp only [TreeQ.holds, rf_eq, w1, w2, w3, w4, w5, w6, w7, w8, w9, w10, w11, w12, Nat.zero_add, decide_eq_true_eq, decide_eq_false_iff_not, Bool.and_eq_true, List.length_nil, Int.natCast_zero, Int.ofNat_zero, Int.add_zero]
  repeat' (first | apply And.intro | intro _)
  all_goals first
    | (exfalso; omega)
    | omega
    | (refine fin _ ?_; rw [putP_o1 (by first | omega | (simp only [List.length_nil]; omega))]; rfl)
    | (refine fin _ ?_; rw [putP_o2 (by first | omega | (simp only [List.length_nil]; omega))]; rfl)
    | (refine fin _ ?_; rw [putP_q1 (i := (n - a - 1).toNat) (by first | omega | (simp only [List.length_nil]; omega)) (by first | omega | (simp only [List.length_nil]; omega)) (by first | omega | (simp only [List.length_nil]; omega))]; simp only [Pl.inB, Pl.boxI, Pl.stI, Pl.colI, Pl.qs, lsB, opsB_set, List.length_set, slV]; rfl)
    | (refine fin _ ?_; rw [putP_q2 (i := (n - (a + 1 + (q1.length : Int)) - 1).toNat) (by first | omega | (simp only [List.length_nil]; omega)) (by first | omega | (simp only [List.length_nil]; omega))]; simp only [Pl.inB, Pl.boxI, Pl.stI, Pl.colI, Pl.qs, lsB, opsB_set, List.length_set, slV]; rfl)
theorem put_loop0010 (hE : Plain E) {x : PtX} (hN : x.y.norm ⟨false, false, true, false⟩) (hx : okPt ⟨false, false, true, false⟩ x = true) : Takes Try.prog E ra base 5 (codeOf 15 pPt) (mkT 82 ((ptD ⟨false, false, true, false⟩).ins x)) (hp 0 ((ptD ⟨false, false, true, false⟩).blks x)) fun y => PostL 82 x y (ptD ⟨false, false, true, false⟩).alts := by
  obtain ⟨⟨pre, ⟨k1, a1, b1, g1⟩, q1, ⟨k2, a2, b2, g2⟩, q2, la, ep⟩, n, a⟩ := x
  obtain ⟨hN1, hN2, hN3, hN4⟩ := hN
  simp only [Sh.u2, cond_true, cond_false, true_implies, Bool.false_eq_true, false_implies] at hN1 hN2 hN3
  simp only [okPt, lens4, Sh.N, Bool.and_eq_true, decide_eq_true_eq, cond_true, cond_false] at hx
  obtain ⟨_, ⟨l1, l2, l3⟩, ha, hn1, hn2⟩ := hx
  replace hn2 := of_decide_eq_true hn2
  try simp only [List.length_nil, Int.natCast_zero, Int.ofNat_zero] at ha hn1 hn2
  have w1 : wr .i64 (a + (q1.length : Int)) = a + (q1.length : Int) := wr_in ⟨by omega, by omega⟩
  have w2 : wr .i64 (n - a) = n - a := wr_in ⟨by omega, by omega⟩
  have w3 : wr .i64 (n - a - 1) = n - a - 1 := wr_in ⟨by omega, by omega⟩
  have w4 : wr .i64 (a + 1) = a + 1 := wr_in ⟨by omega, by omega⟩
  have w5 : wr .i64 (a + 1 + (q1.length : Int)) = a + 1 + (q1.length : Int) := wr_in ⟨by omega, by omega⟩
  have w6 : wr .i64 (a + 1 + (q1.length : Int) + (q2.length : Int)) = a + 1 + (q1.length : Int) + (q2.length : Int) := wr_in ⟨by omega, by omega⟩
  have w7 : wr .i64 (n - (a + 1 + (q1.length : Int))) = n - (a + 1 + (q1.length : Int)) := wr_in ⟨by omega, by omega⟩
  have w8 : wr .i64 (n - (a + 1 + (q1.length : Int)) - 1) = n - (a + 1 + (q1.length : Int)) - 1 := wr_in ⟨by omega, by omega⟩
  have w9 : wr .i64 (n - (a + 1)) = n - (a + 1) := wr_in ⟨by omega, by omega⟩
  have w10 : wr .i64 (n - (a + 1) - 1) = n - (a + 1) - 1 := wr_in ⟨by omega, by omega⟩
  have w11 : wr .i64 (a + 1 + (q2.length : Int)) = a + 1 + (q2.length : Int) := wr_in ⟨by omega, by omega⟩
  have w12 : wr .i64 a = a := wr_in ⟨by omega, by omega⟩
  have fin : ∀ st, st = (AExit.exit 0, mkT 82 [], hp 0 ((putP ⟨false, false, true, false⟩ ⟨pre, ⟨k1, a1, b1, g1⟩, q1, ⟨k2, a2, b2, g2⟩, q2, la, ep⟩ n).inB ⟨false, false, true, false⟩)) → PostL 82 ⟨⟨pre, ⟨k1, a1, b1, g1⟩, q1, ⟨k2, a2, b2, g2⟩, q2, la, ep⟩, n, a⟩ st (ptD ⟨false, false, true, false⟩).alts := fun st h => ⟨(), trivial, h⟩
  refine takes_of_treeQ hE (W_ok noS_ok noL_ok) noT_ok (.inr (by kernel_rfl)) (hp_below _) (pl0010 E pre q1 q2 k1 a1 b1 g1 k2 a2 b2 g2 la ep n a) ?_
  simp only [TreeQ.holds, rf_eq, w1, w2, w3, w4, w5, w6, w7, w8, w9, w10, w11, w12, Nat.zero_add, decide_eq_true_eq, decide_eq_false_iff_not, Bool.and_eq_true, List.length_nil, Int.natCast_zero, Int.ofNat_zero, Int.add_zero]
  repeat' (first | apply And.intro | intro _)
  all_goals first
    | (exfalso; omega)
    | omega
    | (refine fin _ ?_; rw [putP_o1 (by first | omega | (simp only [List.length_nil]; omega))]; rfl)
    | (refine fin _ ?_; rw [putP_o2 (by first | omega | (simp only [List.length_nil]; omega))]; rfl)
    | (refine fin _ ?_; rw [putP_q1 (i := (n - a - 1).toNat) (by first | omega | (simp only [List.length_nil]; omega)) (by first | omega | (simp only [List.length_nil]; omega)) (by first | omega | (simp only [List.length_nil]; omega))]; simp only [Pl.inB, Pl.boxI, Pl.stI, Pl.colI, Pl.qs, lsB, opsB_set, List.length_set, slV]; rfl)
    | (refine fin _ ?_; rw [putP_q2 (i := (n - (a + 1 + (q1.length : Int)) - 1).toNat) (by first | omega | (simp only [List.length_nil]; omega)) (by first | omega | (simp only [List.length_nil]; omega))]; simp only [Pl.inB, Pl.boxI, Pl.stI, Pl.colI, Pl.qs, lsB, opsB_set, List.length_set, slV]; rfl)
theorem put_loop0011 (hE : Plain E) {x : PtX} (hN : x.y.norm ⟨false, false, true, true⟩) (hx : okPt ⟨false, false, true, true⟩ x = true) : Takes Try.prog E ra base 4 (codeOf 15 pPt) (mkT 82 ((ptD ⟨false, false, true, true⟩).ins x)) (hp 0 ((ptD ⟨false, false, true, true⟩).blks x)) fun y => PostL 82 x y (ptD ⟨false, false, true, true⟩).alts := by
  obtain ⟨⟨pre, ⟨k1, a1, b1, g1⟩, q1, ⟨k2, a2, b2, g2⟩, q2, la, ep⟩, n, a⟩ := x
  obtain ⟨hN1, hN2, hN3, hN4⟩ := hN
  simp only [Sh.u2, cond_true, cond_false, true_implies, Bool.false_eq_true, false_implies] at hN1 hN2 hN3
  simp only [okPt, lens4, Sh.N, Bool.and_eq_true, decide_eq_true_eq, cond_true, cond_false] at hx
  obtain ⟨_, ⟨l1, l2, l3⟩, ha, hn1, hn2⟩ := hx
  subst hN3
  replace hn2 := of_decide_eq_true hn2
  try simp only [List.length_nil, Int.natCast_zero, Int.ofNat_zero] at ha hn1 hn2
  have w1 : wr .i64 (a + (q1.length : Int)) = a + (q1.length : Int) := wr_in ⟨by omega, by omega⟩
  have w2 : wr .i64 (n - a) = n - a := wr_in ⟨by omega, by omega⟩
  have w3 : wr .i64 (n - a - 1) = n - a - 1 := wr_in ⟨by omega, by omega⟩
  have w4 : wr .i64 (a + 1) = a + 1 := wr_in ⟨by omega, by omega⟩
  have w5 : wr .i64 (a + 1 + (q1.length : Int)) = a + 1 + (q1.length : Int) := wr_in ⟨by omega, by omega⟩
  have w6 : wr .i64 (a + 1 + (q1.length : Int) + 0) = a + 1 + (q1.length : Int) + 0 := wr_in ⟨by omega, by omega⟩
  have w7 : wr .i64 (n - (a + 1 + (q1.length : Int))) = n - (a + 1 + (q1.length : Int)) := wr_in ⟨by omega, by omega⟩
  have w8 : wr .i64 (n - (a + 1 + (q1.length : Int)) - 1) = n - (a + 1 + (q1.length : Int)) - 1 := wr_in ⟨by omega, by omega⟩
  have w9 : wr .i64 (n - (a + 1)) = n - (a + 1) := wr_in ⟨by omega, by omega⟩
  have w10 : wr .i64 (n - (a + 1) - 1) = n - (a + 1) - 1 := wr_in ⟨by omega, by omega⟩
  have w11 : wr .i64 (a + 1 + 0) = a + 1 + 0 := wr_in ⟨by omega, by omega⟩
  have w12 : wr .i64 a = a := wr_in ⟨by omega, by omega⟩
  have fin : ∀ st, st = (AExit.exit 0, mkT 82 [], hp 0 ((putP ⟨false, false, true, true⟩ ⟨pre, ⟨k1, a1, b1, g1⟩, q1, ⟨k2, a2, b2, g2⟩, [], la, ep⟩ n).inB ⟨false, false, true, true⟩)) → PostL 82 ⟨⟨pre, ⟨k1, a1, b1, g1⟩, q1, ⟨k2, a2, b2, g2⟩, [], la, ep⟩, n, a⟩ st (ptD ⟨false, false, true, true⟩).alts := fun st h => ⟨(), trivial, h⟩
  refine takes_of_treeQ hE (W_ok noS_ok noL_ok) noT_ok (.inr (by kernel_rfl)) (hp_below _) (pl0011 E pre q1 [] k1 a1 b1 g1 k2 a2 b2 g2 la ep n a) ?_
  simp only [TreeQ.holds, rf_eq, w1, w2, w3, w4, w5, w6, w7, w8, w9, w10, w11, w12, Nat.zero_add, decide_eq_true_eq, decide_eq_false_iff_not, Bool.and_eq_true, List.length_nil, Int.natCast_zero, Int.ofNat_zero, Int.add_zero]
  repeat' (first | apply And.intro | intro _)
  all_goals first
    | (exfalso; omega)
    | omega
    | (refine fin _ ?_; rw [putP_o1 (by first | omega | (simp only [List.length_nil]; omega))]; rfl)
    | (refine fin _ ?_; rw [putP_o2 (by first | omega | (simp only [List.length_nil]; omega))]; rfl)
    | (refine fin _ ?_; rw [putP_q1 (i := (n - a - 1).toNat) (by first | omega | (simp only [List.length_nil]; omega)) (by first | omega | (simp only [List.length_nil]; omega)) (by first | omega | (simp only [List.length_nil]; omega))]; simp only [Pl.inB, Pl.boxI, Pl.stI, Pl.colI, Pl.qs, lsB, opsB_set, List.length_set, slV]; rfl)
    | (refine fin _ ?_; rw [putP_q2 (i := (n - (a + 1 + (q1.length : Int)) - 1).toNat) (by first | omega | (simp only [List.length_nil]; omega)) (by first | omega | (simp only [List.length_nil]; omega))]; simp only [Pl.inB, Pl.boxI, Pl.stI, Pl.colI, Pl.qs, lsB, opsB_set, List.length_set, slV]; rfl)
theorem put_loop0100 (hE : Plain E) {x : PtX} (hN : x.y.norm ⟨false, true, false, false⟩) (hx : okPt ⟨false, true, false, false⟩ x = true) : Takes Try.prog E ra base 3 (codeOf 15 pPt) (mkT 82 ((ptD ⟨false, true, false, false⟩).ins x)) (hp 0 ((ptD ⟨false, true, false, false⟩).blks x)) fun y => PostL 82 x y (ptD ⟨false, true, false, false⟩).alts := by
  obtain ⟨⟨pre, ⟨k1, a1, b1, g1⟩, q1, ⟨k2, a2, b2, g2⟩, q2, la, ep⟩, n, a⟩ := x
  obtain ⟨hN1, hN2, hN3, hN4⟩ := hN
  simp only [Sh.u2, cond_true, cond_false, true_implies, Bool.false_eq_true, false_implies] at hN1 hN2 hN3
  simp only [okPt, lens4, Sh.N, Bool.and_eq_true, decide_eq_true_eq, cond_true, cond_false] at hx
  obtain ⟨_, ⟨l1, l2, l3⟩, ha, hn1, hn2⟩ := hx
  subst hN2
  subst hN3
  replace hn2 := of_decide_eq_true hn2
  try simp only [List.length_nil, Int.natCast_zero, Int.ofNat_zero] at ha hn1 hn2
  have w1 : wr .i64 (a + 0) = a + 0 := wr_in ⟨by omega, by omega⟩
  have w2 : wr .i64 (n - a) = n - a := wr_in ⟨by omega, by omega⟩
  have w3 : wr .i64 (n - a - 1) = n - a - 1 := wr_in ⟨by omega, by omega⟩
  have w4 : wr .i64 (a + 1) = a + 1 := wr_in ⟨by omega, by omega⟩
  have w5 : wr .i64 (a + 1 + 0) = a + 1 + 0 := wr_in ⟨by omega, by omega⟩
  have w6 : wr .i64 (a + 1 + 0 + 0) = a + 1 + 0 + 0 := wr_in ⟨by omega, by omega⟩
  have w7 : wr .i64 (n - (a + 1 + 0)) = n - (a + 1 + 0) := wr_in ⟨by omega, by omega⟩
  have w8 : wr .i64 (n - (a + 1 + 0) - 1) = n - (a + 1 + 0) - 1 := wr_in ⟨by omega, by omega⟩
  have w9 : wr .i64 (n - (a + 1)) = n - (a + 1) := wr_in ⟨by omega, by omega⟩
  have w10 : wr .i64 (n - (a + 1) - 1) = n - (a + 1) - 1 := wr_in ⟨by omega, by omega⟩
  have w11 : wr .i64 (a + 1 + 0) = a + 1 + 0 := wr_in ⟨by omega, by omega⟩
  have w12 : wr .i64 a = a := wr_in ⟨by omega, by omega⟩
  have fin : ∀ st, st = (AExit.exit 0, mkT 82 [], hp 0 ((putP ⟨false, true, false, false⟩ ⟨pre, ⟨k1, a1, b1, g1⟩, [], ⟨k2, a2, b2, g2⟩, [], la, ep⟩ n).inB ⟨false, true, false, false⟩)) → PostL 82 ⟨⟨pre, ⟨k1, a1, b1, g1⟩, [], ⟨k2, a2, b2, g2⟩, [], la, ep⟩, n, a⟩ st (ptD ⟨false, true, false, false⟩).alts := fun st h => ⟨(), trivial, h⟩
  refine takes_of_treeQ hE (W_ok noS_ok noL_ok) noT_ok (.inr (by kernel_rfl)) (hp_below _) (pl0100 E pre [] [] k1 a1 b1 g1 k2 a2 b2 g2 la ep n a) ?_
  simp only [TreeQ.holds, rf_eq, w1, w2, w3, w4, w5, w6, w7, w8, w9, w10, w11, w12, Nat.zero_add, decide_eq_true_eq, decide_eq_false_iff_not, Bool.and_eq_true, List.length_nil, Int.natCast_zero, Int.ofNat_zero, Int.add_zero]
  repeat' (first | apply And.intro | intro _)
  all_goals first
    | (exfalso; omega)
    | omega
    | (refine fin _ ?_; rw [putP_o1 (by first | omega | (simp only [List.length_nil]; omega))]; rfl)
    | (refine fin _ ?_; rw [putP_o2 (by first | omega | (simp only [List.length_nil]; omega))]; rfl)
    | (refine fin _ ?_; rw [putP_q1 (i := (n - a - 1).toNat) (by first | omega | (simp only [List.length_nil]; omega)) (by first | omega | (simp only [List.length_nil]; omega)) (by first | omega | (simp only [List.length_nil]; omega))]; simp only [Pl.inB, Pl.boxI, Pl.stI, Pl.colI, Pl.qs, lsB, opsB_set, List.length_set, slV]; rfl)
    | (refine fin _ ?_; rw [putP_q2 (i := (n - (a + 1) - 1).toNat) (by first | omega | (simp only [List.length_nil]; omega)) (by first | omega | (simp only [List.length_nil]; omega))]; simp only [Pl.inB, Pl.boxI, Pl.stI, Pl.colI, Pl.qs, lsB, opsB_set, List.length_set, slV]; rfl)
theorem put_loop0110 (hE : Plain E) {x : PtX} (hN : x.y.norm ⟨false, true, true, false⟩) (hx : okPt ⟨false, true, true, false⟩ x = true) : Takes Try.prog E ra base 4 (codeOf 15 pPt) (mkT 82 ((ptD ⟨false, true, true, false⟩).ins x)) (hp 0 ((ptD ⟨false, true, true, false⟩).blks x)) fun y => PostL 82 x y (ptD ⟨false, true, true, false⟩).alts := by
  obtain ⟨⟨pre, ⟨k1, a1, b1, g1⟩, q1, ⟨k2, a2, b2, g2⟩, q2, la, ep⟩, n, a⟩ := x
  obtain ⟨hN1, hN2, hN3, hN4⟩ := hN
  simp only [Sh.u2, cond_true, cond_false, true_implies, Bool.false_eq_true, false_implies] at hN1 hN2 hN3
  simp only [okPt, lens4, Sh.N, Bool.and_eq_true, decide_eq_true_eq, cond_true, cond_false] at hx
  obtain ⟨_, ⟨l1, l2, l3⟩, ha, hn1, hn2⟩ := hx
  subst hN2
  replace hn2 := of_decide_eq_true hn2
  try simp only [List.length_nil, Int.natCast_zero, Int.ofNat_zero] at ha hn1 hn2
  have w1 : wr .i64 (a + 0) = a + 0 := wr_in ⟨by omega, by omega⟩
  have w2 : wr .i64 (n - a) = n - a := wr_in ⟨by omega, by omega⟩
  have w3 : wr .i64 (n - a - 1) = n - a - 1 := wr_in ⟨by omega, by omega⟩
  have w4 : wr .i64 (a + 1) = a + 1 := wr_in ⟨by omega, by omega⟩
  have w5 : wr .i64 (a + 1 + 0) = a + 1 + 0 := wr_in ⟨by omega, by omega⟩
  have w6 : wr .i64 (a + 1 + 0 + (q2.length : Int)) = a + 1 + 0 + (q2.length : Int) := wr_in ⟨by omega, by omega⟩
  have w7 : wr .i64 (n - (a + 1 + 0)) = n - (a + 1 + 0) := wr_in ⟨by omega, by omega⟩
  have w8 : wr .i64 (n - (a + 1 + 0) - 1) = n - (a + 1 + 0) - 1 := wr_in ⟨by omega, by omega⟩
  have w9 : wr .i64 (n - (a + 1)) = n - (a + 1) := wr_in ⟨by omega, by omega⟩
  have w10 : wr .i64 (n - (a + 1) - 1) = n - (a + 1) - 1 := wr_in ⟨by omega, by omega⟩
  have w11 : wr .i64 (a + 1 + (q2.length : Int)) = a + 1 + (q2.length : Int) := wr_in ⟨by omega, by omega⟩
  have w12 : wr .i64 a = a := wr_in ⟨by omega, by omega⟩
  have fin : ∀ st, st = (AExit.exit 0, mkT 82 [], hp 0 ((putP ⟨false, true, true, false⟩ ⟨pre, ⟨k1, a1, b1, g1⟩, [], ⟨k2, a2, b2, g2⟩, q2, la, ep⟩ n).inB ⟨false, true, true, false⟩)) → PostL 82 ⟨⟨pre, ⟨k1, a1, b1, g1⟩, [], ⟨k2, a2, b2, g2⟩, q2, la, ep⟩, n, a⟩ st (ptD ⟨false, true, true, false⟩).alts := fun st h => ⟨(), trivial, h⟩
  refine takes_of_treeQ hE (W_ok noS_ok noL_ok) noT_ok (.inr (by kernel_rfl)) (hp_below _) (pl0110 E pre [] q2 k1 a1 b1 g1 k2 a2 b2 g2 la ep n a) ?_
  simp only [TreeQ.holds, rf_eq, w1, w2, w3, w4, w5, w6, w7, w8, w9, w10, w11, w12, Nat.zero_add, decide_eq_true_eq, decide_eq_false_iff_not, Bool.and_eq_true, List.length_nil, Int.natCast_zero, Int.ofNat_zero, Int.add_zero]
  repeat' (first | apply And.intro | intro _)
  all_goals first
    | (exfalso; omega)
    | omega
    | (refine fin _ ?_; rw [putP_o1 (by first | omega | (simp only [List.length_nil]; omega))]; rfl)
    | (refine fin _ ?_; rw [putP_o2 (by first | omega | (simp only [List.length_nil]; omega))]; rfl)
    | (refine fin _ ?_; rw [putP_q1 (i := (n - a - 1).toNat) (by first | omega | (simp only [List.length_nil]; omega)) (by first | omega | (simp only [List.length_nil]; omega)) (by first | omega | (simp only [List.length_nil]; omega))]; simp only [Pl.inB, Pl.boxI, Pl.stI, Pl.colI, Pl.qs, lsB, opsB_set, List.length_set, slV]; rfl)
    | (refine fin _ ?_; rw [putP_q2 (i := (n - (a + 1) - 1).toNat) (by first | omega | (simp only [List.length_nil]; omega)) (by first | omega | (simp only [List.length_nil]; omega))]; simp only [Pl.inB, Pl.boxI, Pl.stI, Pl.colI, Pl.qs, lsB, opsB_set, List.length_set, slV]; rfl)
theorem put_loop0111 (hE : Plain E) {x : PtX} (hN : x.y.norm ⟨false, true, true, true⟩) (hx : okPt ⟨false, true, true, true⟩ x = true) : Takes Try.prog E ra base 3 (codeOf 15 pPt) (mkT 82 ((ptD ⟨false, true, true, true⟩).ins x)) (hp 0 ((ptD ⟨false, true, true, true⟩).blks x)) fun y => PostL 82 x y (ptD ⟨false, true, true, true⟩).alts := by
  obtain ⟨⟨pre, ⟨k1, a1, b1, g1⟩, q1, ⟨k2, a2, b2, g2⟩, q2, la, ep⟩, n, a⟩ := x
  obtain ⟨hN1, hN2, hN3, hN4⟩ := hN
  simp only [Sh.u2, cond_true, cond_false, true_implies, Bool.false_eq_true, false_implies] at hN1 hN2 hN3
  simp only [okPt, lens4, Sh.N, Bool.and_eq_true, decide_eq_true_eq, cond_true, cond_false] at hx
  obtain ⟨_, ⟨l1, l2, l3⟩, ha, hn1, hn2⟩ := hx
  subst hN2
  subst hN3
  replace hn2 := of_decide_eq_true hn2
  try simp only [List.length_nil, Int.natCast_zero, Int.ofNat_zero] at ha hn1 hn2
  have w1 : wr .i64 (a + 0) = a + 0 := wr_in ⟨by omega, by omega⟩
  have w2 : wr .i64 (n - a) = n - a := wr_in ⟨by omega, by omega⟩
  have w3 : wr .i64 (n - a - 1) = n - a - 1 := wr_in ⟨by omega, by omega⟩
  have w4 : wr .i64 (a + 1) = a + 1 := wr_in ⟨by omega, by omega⟩
  have w5 : wr .i64 (a + 1 + 0) = a + 1 + 0 := wr_in ⟨by omega, by omega⟩
  have w6 : wr .i64 (a + 1 + 0 + 0) = a + 1 + 0 + 0 := wr_in ⟨by omega, by omega⟩
  have w7 : wr .i64 (n - (a + 1 + 0)) = n - (a + 1 + 0) := wr_in ⟨by omega, by omega⟩
  have w8 : wr .i64 (n - (a + 1 + 0) - 1) = n - (a + 1 + 0) - 1 := wr_in ⟨by omega, by omega⟩
  have w9 : wr .i64 (n - (a + 1)) = n - (a + 1) := wr_in ⟨by omega, by omega⟩
  have w10 : wr .i64 (n - (a + 1) - 1) = n - (a + 1) - 1 := wr_in ⟨by omega, by omega⟩
  have w11 : wr .i64 (a + 1 + 0) = a + 1 + 0 := wr_in ⟨by omega, by omega⟩
  have w12 : wr .i64 a = a := wr_in ⟨by omega, by omega⟩
  have fin : ∀ st, st = (AExit.exit 0, mkT 82 [], hp 0 ((putP ⟨false, true, true, true⟩ ⟨pre, ⟨k1, a1, b1, g1⟩, [], ⟨k2, a2, b2, g2⟩, [], la, ep⟩ n).inB ⟨false, true, true, true⟩)) → PostL 82 ⟨⟨pre, ⟨k1, a1, b1, g1⟩, [], ⟨k2, a2, b2, g2⟩, [], la, ep⟩, n, a⟩ st (ptD ⟨false, true, true, true⟩).alts := fun st h => ⟨(), trivial, h⟩
  refine takes_of_treeQ hE (W_ok noS_ok noL_ok) noT_ok (.inr (by kernel_rfl)) (hp_below _) (pl0111 E pre [] [] k1 a1 b1 g1 k2 a2 b2 g2 la ep n a) ?_
  simp only [TreeQ.holds, rf_eq, w1, w2, w3, w4, w5, w6, w7, w8, w9, w10, w11, w12, Nat.zero_add, decide_eq_true_eq, decide_eq_false_iff_not, Bool.and_eq_true, List.length_nil, Int.natCast_zero, Int.ofNat_zero, Int.add_zero]
  repeat' (first | apply And.intro | intro _)
  all_goals first
    | (exfalso; omega)
    | omega
    | (refine fin _ ?_; rw [putP_o1 (by first | omega | (simp only [List.length_nil]; omega))]; rfl)
    | (refine fin _ ?_; rw [putP_o2 (by first | omega | (simp only [List.length_nil]; omega))]; rfl)
    | (refine fin _ ?_; rw [putP_q1 (i := (n - a - 1).toNat) (by first | omega | (simp only [List.length_nil]; omega)) (by first | omega | (simp only [List.length_nil]; omega)) (by first | omega | (simp only [List.length_nil]; omega))]; simp only [Pl.inB, Pl.boxI, Pl.stI, Pl.colI, Pl.qs, lsB, opsB_set, List.length_set, slV]; rfl)
    | (refine fin _ ?_; rw [putP_q2 (i := (n - (a + 1) - 1).toNat) (by first | omega | (simp only [List.length_nil]; omega)) (by first | omega | (simp only [List.length_nil]; omega))]; simp only [Pl.inB, Pl.boxI, Pl.stI, Pl.colI, Pl.qs, lsB, opsB_set, List.length_set, slV]; rfl)
theorem put_loop1000 (hE : Plain E) {x : PtX} (hN : x.y.norm ⟨true, false, false, false⟩) (hx : okPt ⟨true, false, false, false⟩ x = true) : Takes Try.prog E ra base 3 (codeOf 15 pPt) (mkT 82 ((ptD ⟨true, false, false, false⟩).ins x)) (hp 0 ((ptD ⟨true, false, false, false⟩).blks x)) fun y => PostL 82 x y (ptD ⟨true, false, false, false⟩).alts := by
  obtain ⟨⟨pre, ⟨k1, a1, b1, g1⟩, q1, ⟨k2, a2, b2, g2⟩, q2, la, ep⟩, n, a⟩ := x
  obtain ⟨hN1, hN2, hN3, hN4⟩ := hN
  simp only [Sh.u2, cond_true, cond_false, true_implies, Bool.false_eq_true, false_implies] at hN1 hN2 hN3
  simp only [okPt, lens4, Sh.N, Bool.and_eq_true, decide_eq_true_eq, cond_true, cond_false] at hx
  obtain ⟨_, ⟨l1, l2, l3⟩, ha, hn1, hn2⟩ := hx
  subst hN1
  subst hN3
  replace hn2 := of_decide_eq_true hn2
  try simp only [List.length_nil, Int.natCast_zero, Int.ofNat_zero] at ha hn1 hn2
  have w1 : wr .i64 (a + (q1.length : Int)) = a + (q1.length : Int) := wr_in ⟨by omega, by omega⟩
  have w2 : wr .i64 (n - a) = n - a := wr_in ⟨by omega, by omega⟩
  have w3 : wr .i64 (n - a - 1) = n - a - 1 := wr_in ⟨by omega, by omega⟩
  have w4 : wr .i64 (a + 1) = a + 1 := wr_in ⟨by omega, by omega⟩
  have w5 : wr .i64 (a + 1 + (q1.length : Int)) = a + 1 + (q1.length : Int) := wr_in ⟨by omega, by omega⟩
  have w6 : wr .i64 (a + 1 + (q1.length : Int) + 0) = a + 1 + (q1.length : Int) + 0 := wr_in ⟨by omega, by omega⟩
  have w7 : wr .i64 (n - (a + 1 + (q1.length : Int))) = n - (a + 1 + (q1.length : Int)) := wr_in ⟨by omega, by omega⟩
  have w8 : wr .i64 (n - (a + 1 + (q1.length : Int)) - 1) = n - (a + 1 + (q1.length : Int)) - 1 := wr_in ⟨by omega, by omega⟩
  have w9 : wr .i64 (n - (a + 1)) = n - (a + 1) := wr_in ⟨by omega, by omega⟩
  have w10 : wr .i64 (n - (a + 1) - 1) = n - (a + 1) - 1 := wr_in ⟨by omega, by omega⟩
  have w11 : wr .i64 (a + 1 + 0) = a + 1 + 0 := wr_in ⟨by omega, by omega⟩
  have w12 : wr .i64 a = a := wr_in ⟨by omega, by omega⟩
  have fin : ∀ st, st = (AExit.exit 0, mkT 82 [], hp 0 ((putP ⟨true, false, false, false⟩ ⟨[], ⟨k1, a1, b1, g1⟩, q1, ⟨k2, a2, b2, g2⟩, [], la, ep⟩ n).inB ⟨true, false, false, false⟩)) → PostL 82 ⟨⟨[], ⟨k1, a1, b1, g1⟩, q1, ⟨k2, a2, b2, g2⟩, [], la, ep⟩, n, a⟩ st (ptD ⟨true, false, false, false⟩).alts := fun st h => ⟨(), trivial, h⟩
  refine takes_of_treeQ hE (W_ok noS_ok noL_ok) noT_ok (.inr (by kernel_rfl)) (hp_below _) (pl1000 E [] q1 [] k1 a1 b1 g1 k2 a2 b2 g2 la ep n a) ?_
  simp only [TreeQ.holds, rf_eq, w1, w2, w3, w4, w5, w6, w7, w8, w9, w10, w11, w12, Nat.zero_add, decide_eq_true_eq, decide_eq_false_iff_not, Bool.and_eq_true, List.length_nil, Int.natCast_zero, Int.ofNat_zero, Int.add_zero]
  repeat' (first | apply And.intro | intro _)
  all_goals first
    | (exfalso; omega)
    | omega
    | (refine fin _ ?_; rw [putP_o1 (by first | omega | (simp only [List.length_nil]; omega))]; rfl)
    | (refine fin _ ?_; rw [putP_o2 (by first | omega | (simp only [List.length_nil]; omega))]; rfl)
    | (refine fin _ ?_; rw [putP_q1 (i := (n - a - 1).toNat) (by first | omega | (simp only [List.length_nil]; omega)) (by first | omega | (simp only [List.length_nil]; omega)) (by first | omega | (simp only [List.length_nil]; omega))]; simp only [Pl.inB, Pl.boxI, Pl.stI, Pl.colI, Pl.qs, lsB, opsB_set, List.length_set, slV]; rfl)
    | (refine fin _ ?_; rw [putP_q2 (i := (n - (a + 1 + (q1.length : Int)) - 1).toNat) (by first | omega | (simp only [List.length_nil]; omega)) (by first | omega | (simp only [List.length_nil]; omega))]; simp only [Pl.inB, Pl.boxI, Pl.stI, Pl.colI, Pl.qs, lsB, opsB_set, List.length_set, slV]; rfl)
theorem put_loop1010 (hE : Plain E) {x : PtX} (hN : x.y.norm ⟨true, false, true, false⟩) (hx : okPt ⟨true, false, true, false⟩ x = true) : Takes Try.prog E ra base 4 (codeOf 15 pPt) (mkT 82 ((ptD ⟨true, false, true, false⟩).ins x)) (hp 0 ((ptD ⟨true, false, true, false⟩).blks x)) fun y => PostL 82 x y (ptD ⟨true, false, true, false⟩).alts := by
  obtain ⟨⟨pre, ⟨k1, a1, b1, g1⟩, q1, ⟨k2, a2, b2, g2⟩, q2, la, ep⟩, n, a⟩ := x
  obtain ⟨hN1, hN2, hN3, hN4⟩ := hN
  simp only [Sh.u2, cond_true, cond_false, true_implies, Bool.false_eq_true, false_implies] at hN1 hN2 hN3
  simp only [okPt, lens4, Sh.N, Bool.and_eq_true, decide_eq_true_eq, cond_true, cond_false] at hx
  obtain ⟨_, ⟨l1, l2, l3⟩, ha, hn1, hn2⟩ := hx
  subst hN1
  replace hn2 := of_decide_eq_true hn2
  try simp only [List.length_nil, Int.natCast_zero, Int.ofNat_zero] at ha hn1 hn2
  have w1 : wr .i64 (a + (q1.length : Int)) = a + (q1.length : Int) := wr_in ⟨by omega, by omega⟩
  have w2 : wr .i64 (n - a) = n - a := wr_in ⟨by omega, by omega⟩
  have w3 : wr .i64 (n - a - 1) = n - a - 1 := wr_in ⟨by omega, by omega⟩
  have w4 : wr .i64 (a + 1) = a + 1 := wr_in ⟨by omega, by omega⟩
  have w5 : wr .i64 (a + 1 + (q1.length : Int)) = a + 1 + (q1.length : Int) := wr_in ⟨by omega, by omega⟩
  have w6 : wr .i64 (a + 1 + (q1.length : Int) + (q2.length : Int)) = a + 1 + (q1.length : Int) + (q2.length : Int) := wr_in ⟨by omega, by omega⟩
  have w7 : wr .i64 (n - (a + 1 + (q1.length : Int))) = n - (a + 1 + (q1.length : Int)) := wr_in ⟨by omega, by omega⟩
  have w8 : wr .i64 (n - (a + 1 + (q1.length : Int)) - 1) = n - (a + 1 + (q1.length : Int)) - 1 := wr_in ⟨by omega, by omega⟩
  have w9 : wr .i64 (n - (a + 1)) = n - (a + 1) := wr_in ⟨by omega, by omega⟩
  have w10 : wr .i64 (n - (a + 1) - 1) = n - (a + 1) - 1 := wr_in ⟨by omega, by omega⟩
  have w11 : wr .i64 (a + 1 + (q2.length : Int)) = a + 1 + (q2.length : Int) := wr_in ⟨by omega, by omega⟩
  have w12 : wr .i64 a = a := wr_in ⟨by omega, by omega⟩
  have fin : ∀ st, st = (AExit.exit 0, mkT 82 [], hp 0 ((putP ⟨true, false, true, false⟩ ⟨[], ⟨k1, a1, b1, g1⟩, q1, ⟨k2, a2, b2, g2⟩, q2, la, ep⟩ n).inB ⟨true, false, true, false⟩)) → PostL 82 ⟨⟨[], ⟨k1, a1, b1, g1⟩, q1, ⟨k2, a2, b2, g2⟩, q2, la, ep⟩, n, a⟩ st (ptD ⟨true, false, true, false⟩).alts := fun st h => ⟨(), trivial, h⟩
  refine takes_of_treeQ hE (W_ok noS_ok noL_ok) noT_ok (.inr (by kernel_rfl)) (hp_below _) (pl1010 E [] q1 q2 k1 a1 b1 g1 k2 a2 b2 g2 la ep n a) ?_
  simp only [TreeQ.holds, rf_eq, w1, w2, w3, w4, w5, w6, w7, w8, w9, w10, w11, w12, Nat.zero_add, decide_eq_true_eq, decide_eq_false_iff_not, Bool.and_eq_true, List.length_nil, Int.natCast_zero, Int.ofNat_zero, Int.add_zero]
  repeat' (first | apply And.intro | intro _)
  all_goals first
    | (exfalso; omega)
    | omega
    | (refine fin _ ?_; rw [putP_o1 (by first | omega | (simp only [List.length_nil]; omega))]; rfl)
    | (refine fin _ ?_; rw [putP_o2 (by first | omega | (simp only [List.length_nil]; omega))]; rfl)
    | (refine fin _ ?_; rw [putP_q1 (i := (n - a - 1).toNat) (by first | omega | (simp only [List.length_nil]; omega)) (by first | omega | (simp only [List.length_nil]; omega)) (by first | omega | (simp only [List.length_nil]; omega))]; simp only [Pl.inB, Pl.boxI, Pl.stI, Pl.colI, Pl.qs, lsB, opsB_set, List.length_set, slV]; rfl)
    | (refine fin _ ?_; rw [putP_q2 (i := (n - (a + 1 + (q1.length : Int)) - 1).toNat) (by first | omega | (simp only [List.length_nil]; omega)) (by first | omega | (simp only [List.length_nil]; omega))]; simp only [Pl.inB, Pl.boxI, Pl.stI, Pl.colI, Pl.qs, lsB, opsB_set, List.length_set, slV]; rfl)
theorem put_loop1011 (hE : Plain E) {x : PtX} (hN : x.y.norm ⟨true, false, true, true⟩) (hx : okPt ⟨true, false, true, true⟩ x = true) : Takes Try.prog E ra base 3 (codeOf 15 pPt) (mkT 82 ((ptD ⟨true, false, true, true⟩).ins x)) (hp 0 ((ptD ⟨true, false, true, true⟩).blks x)) fun y => PostL 82 x y (ptD ⟨true, false, true, true⟩).alts := by
  obtain ⟨⟨pre, ⟨k1, a1, b1, g1⟩, q1, ⟨k2, a2, b2, g2⟩, q2, la, ep⟩, n, a⟩ := x
  obtain ⟨hN1, hN2, hN3, hN4⟩ := hN
  simp only [Sh.u2, cond_true, cond_false, true_implies, Bool.false_eq_true, false_implies] at hN1 hN2 hN3
  simp only [okPt, lens4, Sh.N, Bool.and_eq_true, decide_eq_true_eq, cond_true, cond_false] at hx
  obtain ⟨_, ⟨l1, l2, l3⟩, ha, hn1, hn2⟩ := hx
  subst hN1
  subst hN3
  replace hn2 := of_decide_eq_true hn2
  try simp only [List.length_nil, Int.natCast_zero, Int.ofNat_zero] at ha hn1 hn2
  have w1 : wr .i64 (a + (q1.length : Int)) = a + (q1.length : Int) := wr_in ⟨by omega, by omega⟩
  have w2 : wr .i64 (n - a) = n - a := wr_in ⟨by omega, by omega⟩
  have w3 : wr .i64 (n - a - 1) = n - a - 1 := wr_in ⟨by omega, by omega⟩
  have w4 : wr .i64 (a + 1) = a + 1 := wr_in ⟨by omega, by omega⟩
  have w5 : wr .i64 (a + 1 + (q1.length : Int)) = a + 1 + (q1.length : Int) := wr_in ⟨by omega, by omega⟩
  have w6 : wr .i64 (a + 1 + (q1.length : Int) + 0) = a + 1 + (q1.length : Int) + 0 := wr_in ⟨by omega, by omega⟩
  have w7 : wr .i64 (n - (a + 1 + (q1.length : Int))) = n - (a + 1 + (q1.length : Int)) := wr_in ⟨by omega, by omega⟩
  have w8 : wr .i64 (n - (a + 1 + (q1.length : Int)) - 1) = n - (a + 1 + (q1.length : Int)) - 1 := wr_in ⟨by omega, by omega⟩
  have w9 : wr .i64 (n - (a + 1)) = n - (a + 1) := wr_in ⟨by omega, by omega⟩
  have w10 : wr .i64 (n - (a + 1) - 1) = n - (a + 1) - 1 := wr_in ⟨by omega, by omega⟩
  have w11 : wr .i64 (a + 1 + 0) = a + 1 + 0 := wr_in ⟨by omega, by omega⟩
  have w12 : wr .i64 a = a := wr_in ⟨by omega, by omega⟩
  have fin : ∀ st, st = (AExit.exit 0, mkT 82 [], hp 0 ((putP ⟨true, false, true, true⟩ ⟨[], ⟨k1, a1, b1, g1⟩, q1, ⟨k2, a2, b2, g2⟩, [], la, ep⟩ n).inB ⟨true, false, true, true⟩)) → PostL 82 ⟨⟨[], ⟨k1, a1, b1, g1⟩, q1, ⟨k2, a2, b2, g2⟩, [], la, ep⟩, n, a⟩ st (ptD ⟨true, false, true, true⟩).alts := fun st h => ⟨(), trivial, h⟩
  refine takes_of_treeQ hE (W_ok noS_ok noL_ok) noT_ok (.inr (by kernel_rfl)) (hp_below _) (pl1011 E [] q1 [] k1 a1 b1 g1 k2 a2 b2 g2 la ep n a) ?_
  simp only [TreeQ.holds, rf_eq, w1, w2, w3, w4, w5, w6, w7, w8, w9, w10, w11, w12, Nat.zero_add, decide_eq_true_eq, decide_eq_false_iff_not, Bool.and_eq_true, List.length_nil, Int.natCast_zero, Int.ofNat_zero, Int.add_zero]
  repeat' (first | apply And.intro | intro _)
  all_goals first
    | (exfalso; omega)
    | omega
    | (refine fin _ ?_; rw [putP_o1 (by first | omega | (simp only [List.length_nil]; omega))]; rfl)
    | (refine fin _ ?_; rw [putP_o2 (by first | omega | (simp only [List.length_nil]; omega))]; rfl)
    | (refine fin _ ?_; rw [putP_q1 (i := (n - a - 1).toNat) (by first | omega | (simp only [List.length_nil]; omega)) (by first | omega | (simp only [List.length_nil]; omega)) (by first | omega | (simp only [List.length_nil]; omega))]; simp only [Pl.inB, Pl.boxI, Pl.stI, Pl.colI, Pl.qs, lsB, opsB_set, List.length_set, slV]; rfl)
    | (refine fin _ ?_; rw [putP_q2 (i := (n - (a + 1 + (q1.length : Int)) - 1).toNat) (by first | omega | (simp only [List.length_nil]; omega)) (by first | omega | (simp only [List.length_nil]; omega))]; simp only [Pl.inB, Pl.boxI, Pl.stI, Pl.colI, Pl.qs, lsB, opsB_set, List.length_set, slV]; rfl)
theorem put_loop1100 (hE : Plain E) {x : PtX} (hN : x.y.norm ⟨true, true, false, false⟩) (hx : okPt ⟨true, true, false, false⟩ x = true) : Takes Try.prog E ra base 2 (codeOf 15 pPt) (mkT 82 ((ptD ⟨true, true, false, false⟩).ins x)) (hp 0 ((ptD ⟨true, true, false, false⟩).blks x)) fun y => PostL 82 x y (ptD ⟨true, true, false, false⟩).alts := by
  obtain ⟨⟨pre, ⟨k1, a1, b1, g1⟩, q1, ⟨k2, a2, b2, g2⟩, q2, la, ep⟩, n, a⟩ := x
  obtain ⟨hN1, hN2, hN3, hN4⟩ := hN
  simp only [Sh.u2, cond_true, cond_false, true_implies, Bool.false_eq_true, false_implies] at hN1 hN2 hN3
  simp only [okPt, lens4, Sh.N, Bool.and_eq_true, decide_eq_true_eq, cond_true, cond_false] at hx
  obtain ⟨_, ⟨l1, l2, l3⟩, ha, hn1, hn2⟩ := hx
  subst hN1
  subst hN2
  subst hN3
  replace hn2 := of_decide_eq_true hn2
  try simp only [List.length_nil, Int.natCast_zero, Int.ofNat_zero] at ha hn1 hn2
  have w1 : wr .i64 (a + 0) = a + 0 := wr_in ⟨by omega, by omega⟩
  have w2 : wr .i64 (n - a) = n - a := wr_in ⟨by omega, by omega⟩
  have w3 : wr .i64 (n - a - 1) = n - a - 1 := wr_in ⟨by omega, by omega⟩
  have w4 : wr .i64 (a + 1) = a + 1 := wr_in ⟨by omega, by omega⟩
  have w5 : wr .i64 (a + 1 + 0) = a + 1 + 0 := wr_in ⟨by omega, by omega⟩
  have w6 : wr .i64 (a + 1 + 0 + 0) = a + 1 + 0 + 0 := wr_in ⟨by omega, by omega⟩
  have w7 : wr .i64 (n - (a + 1 + 0)) = n - (a + 1 + 0) := wr_in ⟨by omega, by omega⟩
  have w8 : wr .i64 (n - (a + 1 + 0) - 1) = n - (a + 1 + 0) - 1 := wr_in ⟨by omega, by omega⟩
  have w9 : wr .i64 (n - (a + 1)) = n - (a + 1) := wr_in ⟨by omega, by omega⟩
  have w10 : wr .i64 (n - (a + 1) - 1) = n - (a + 1) - 1 := wr_in ⟨by omega, by omega⟩
  have w11 : wr .i64 (a + 1 + 0) = a + 1 + 0 := wr_in ⟨by omega, by omega⟩
  have w12 : wr .i64 a = a := wr_in ⟨by omega, by omega⟩
  have fin : ∀ st, st = (AExit.exit 0, mkT 82 [], hp 0 ((putP ⟨true, true, false, false⟩ ⟨[], ⟨k1, a1, b1, g1⟩, [], ⟨k2, a2, b2, g2⟩, [], la, ep⟩ n).inB ⟨true, true, false, false⟩)) → PostL 82 ⟨⟨[], ⟨k1, a1, b1, g1⟩, [], ⟨k2, a2, b2, g2⟩, [], la, ep⟩, n, a⟩ st (ptD ⟨true, true, false, false⟩).alts := fun st h => ⟨(), trivial, h⟩
  refine takes_of_treeQ hE (W_ok noS_ok noL_ok) noT_ok (.inr (by kernel_rfl)) (hp_below _) (pl1100 E [] [] [] k1 a1 b1 g1 k2 a2 b2 g2 la ep n a) ?_
  simp only [TreeQ.holds, rf_eq, w1, w2, w3, w4, w5, w6, w7, w8, w9, w10, w11, w12, Nat.zero_add, decide_eq_true_eq, decide_eq_false_iff_not, Bool.and_eq_true, List.length_nil, Int.natCast_zero, Int.ofNat_zero, Int.add_zero]
  repeat' (first | apply And.intro | intro _)
  all_goals first
    | (exfalso; omega)
    | omega
    | (refine fin _ ?_; rw [putP_o1 (by first | omega | (simp only [List.length_nil]; omega))]; rfl)
    | (refine fin _ ?_; rw [putP_o2 (by first | omega | (simp only [List.length_nil]; omega))]; rfl)
    | (refine fin _ ?_; rw [putP_q1 (i := (n - a - 1).toNat) (by first | omega | (simp only [List.length_nil]; omega)) (by first | omega | (simp only [List.length_nil]; omega)) (by first | omega | (simp only [List.length_nil]; omega))]; simp only [Pl.inB, Pl.boxI, Pl.stI, Pl.colI, Pl.qs, lsB, opsB_set, List.length_set, slV]; rfl)
    | (refine fin _ ?_; rw [putP_q2 (i := (n - (a + 1) - 1).toNat) (by first | omega | (simp only [List.length_nil]; omega)) (by first | omega | (simp only [List.length_nil]; omega))]; simp only [Pl.inB, Pl.boxI, Pl.stI, Pl.colI, Pl.qs, lsB, opsB_set, List.length_set, slV]; rfl)
theorem put_loop1110 (hE : Plain E) {x : PtX} (hN : x.y.norm ⟨true, true, true, false⟩) (hx : okPt ⟨true, true, true, false⟩ x = true) : Takes Try.prog E ra base 3 (codeOf 15 pPt) (mkT 82 ((ptD ⟨true, true, true, false⟩).ins x)) (hp 0 ((ptD ⟨true, true, true, false⟩).blks x)) fun y => PostL 82 x y (ptD ⟨true, true, true, false⟩).alts := by
  obtain ⟨⟨pre, ⟨k1, a1, b1, g1⟩, q1, ⟨k2, a2, b2, g2⟩, q2, la, ep⟩, n, a⟩ := x
  obtain ⟨hN1, hN2, hN3, hN4⟩ := hN
  simp only [Sh.u2, cond_true, cond_false, true_implies, Bool.false_eq_true, false_implies] at hN1 hN2 hN3
  simp only [okPt, lens4, Sh.N, Bool.and_eq_true, decide_eq_true_eq, cond_true, cond_false] at hx
  obtain ⟨_, ⟨l1, l2, l3⟩, ha, hn1, hn2⟩ := hx
  subst hN1
  subst hN2
  replace hn2 := of_decide_eq_true hn2
  try simp only [List.length_nil, Int.natCast_zero, Int.ofNat_zero] at ha hn1 hn2
  have w1 : wr .i64 (a + 0) = a + 0 := wr_in ⟨by omega, by omega⟩
  have w2 : wr .i64 (n - a) = n - a := wr_in ⟨by omega, by omega⟩
  have w3 : wr .i64 (n - a - 1) = n - a - 1 := wr_in ⟨by omega, by omega⟩
  have w4 : wr .i64 (a + 1) = a + 1 := wr_in ⟨by omega, by omega⟩
  have w5 : wr .i64 (a + 1 + 0) = a + 1 + 0 := wr_in ⟨by omega, by omega⟩
  have w6 : wr .i64 (a + 1 + 0 + (q2.length : Int)) = a + 1 + 0 + (q2.length : Int) := wr_in ⟨by omega, by omega⟩
  have w7 : wr .i64 (n - (a + 1 + 0)) = n - (a + 1 + 0) := wr_in ⟨by omega, by omega⟩
  have w8 : wr .i64 (n - (a + 1 + 0) - 1) = n - (a + 1 + 0) - 1 := wr_in ⟨by omega, by omega⟩
  have w9 : wr .i64 (n - (a + 1)) = n - (a + 1) := wr_in ⟨by omega, by omega⟩
  have w10 : wr .i64 (n - (a + 1) - 1) = n - (a + 1) - 1 := wr_in ⟨by omega, by omega⟩
  have w11 : wr .i64 (a + 1 + (q2.length : Int)) = a + 1 + (q2.length : Int) := wr_in ⟨by omega, by omega⟩
  have w12 : wr .i64 a = a := wr_in ⟨by omega, by omega⟩
  have fin : ∀ st, st = (AExit.exit 0, mkT 82 [], hp 0 ((putP ⟨true, true, true, false⟩ ⟨[], ⟨k1, a1, b1, g1⟩, [], ⟨k2, a2, b2, g2⟩, q2, la, ep⟩ n).inB ⟨true, true, true, false⟩)) → PostL 82 ⟨⟨[], ⟨k1, a1, b1, g1⟩, [], ⟨k2, a2, b2, g2⟩, q2, la, ep⟩, n, a⟩ st (ptD ⟨true, true, true, false⟩).alts := fun st h => ⟨(), trivial, h⟩
  refine takes_of_treeQ hE (W_ok noS_ok noL_ok) noT_ok (.inr (by kernel_rfl)) (hp_below _) (pl1110 E [] [] q2 k1 a1 b1 g1 k2 a2 b2 g2 la ep n a) ?_
  simp only [TreeQ.holds, rf_eq, w1, w2, w3, w4, w5, w6, w7, w8, w9, w10, w11, w12, Nat.zero_add, decide_eq_true_eq, decide_eq_false_iff_not, Bool.and_eq_true, List.length_nil, Int.natCast_zero, Int.ofNat_zero, Int.add_zero]
  repeat' (first | apply And.intro | intro _)
  all_goals first
    | (exfalso; omega)
    | omega
    | (refine fin _ ?_; rw [putP_o1 (by first | omega | (simp only [List.length_nil]; omega))]; rfl)
    | (refine fin _ ?_; rw [putP_o2 (by first | omega | (simp only [List.length_nil]; omega))]; rfl)
    | (refine fin _ ?_; rw [putP_q1 (i := (n - a - 1).toNat) (by first | omega | (simp only [List.length_nil]; omega)) (by first | omega | (simp only [List.length_nil]; omega)) (by first | omega | (simp only [List.length_nil]; omega))]; simp only [Pl.inB, Pl.boxI, Pl.stI, Pl.colI, Pl.qs, lsB, opsB_set, List.length_set, slV]; rfl)
    | (refine fin _ ?_; rw [putP_q2 (i := (n - (a + 1) - 1).toNat) (by first | omega | (simp only [List.length_nil]; omega)) (by first | omega | (simp only [List.length_nil]; omega))]; simp only [Pl.inB, Pl.boxI, Pl.stI, Pl.colI, Pl.qs, lsB, opsB_set, List.length_set, slV]; rfl)
theorem put_loop1111 (hE : Plain E) {x : PtX} (hN : x.y.norm ⟨true, true, true, true⟩) (hx : okPt ⟨true, true, true, true⟩ x = true) : Takes Try.prog E ra base 2 (codeOf 15 pPt) (mkT 82 ((ptD ⟨true, true, true, true⟩).ins x)) (hp 0 ((ptD ⟨true, true, true, true⟩).blks x)) fun y => PostL 82 x y (ptD ⟨true, true, true, true⟩).alts := by
  obtain ⟨⟨pre, ⟨k1, a1, b1, g1⟩, q1, ⟨k2, a2, b2, g2⟩, q2, la, ep⟩, n, a⟩ := x
  obtain ⟨hN1, hN2, hN3, hN4⟩ := hN
  simp only [Sh.u2, cond_true, cond_false, true_implies, Bool.false_eq_true, false_implies] at hN1 hN2 hN3
  simp only [okPt, lens4, Sh.N, Bool.and_eq_true, decide_eq_true_eq, cond_true, cond_false] at hx
  obtain ⟨_, ⟨l1, l2, l3⟩, ha, hn1, hn2⟩ := hx
  subst hN1
  subst hN2
  subst hN3
  replace hn2 := of_decide_eq_true hn2
  try simp only [List.length_nil, Int.natCast_zero, Int.ofNat_zero] at ha hn1 hn2
  have w1 : wr .i64 (a + 0) = a + 0 := wr_in ⟨by omega, by omega⟩
  have w2 : wr .i64 (n - a) = n - a := wr_in ⟨by omega, by omega⟩
  have w3 : wr .i64 (n - a - 1) = n - a - 1 := wr_in ⟨by omega, by omega⟩
  have w4 : wr .i64 (a + 1) = a + 1 := wr_in ⟨by omega, by omega⟩
  have w5 : wr .i64 (a + 1 + 0) = a + 1 + 0 := wr_in ⟨by omega, by omega⟩
  have w6 : wr .i64 (a + 1 + 0 + 0) = a + 1 + 0 + 0 := wr_in ⟨by omega, by omega⟩
  have w7 : wr .i64 (n - (a + 1 + 0)) = n - (a + 1 + 0) := wr_in ⟨by omega, by omega⟩
  have w8 : wr .i64 (n - (a + 1 + 0) - 1) = n - (a + 1 + 0) - 1 := wr_in ⟨by omega, by omega⟩
  have w9 : wr .i64 (n - (a + 1)) = n - (a + 1) := wr_in ⟨by omega, by omega⟩
  have w10 : wr .i64 (n - (a + 1) - 1) = n - (a + 1) - 1 := wr_in ⟨by omega, by omega⟩
  have w11 : wr .i64 (a + 1 + 0) = a + 1 + 0 := wr_in ⟨by omega, by omega⟩
  have w12 : wr .i64 a = a := wr_in ⟨by omega, by omega⟩
  have fin : ∀ st, st = (AExit.exit 0, mkT 82 [], hp 0 ((putP ⟨true, true, true, true⟩ ⟨[], ⟨k1, a1, b1, g1⟩, [], ⟨k2, a2, b2, g2⟩, [], la, ep⟩ n).inB ⟨true, true, true, true⟩)) → PostL 82 ⟨⟨[], ⟨k1, a1, b1, g1⟩, [], ⟨k2, a2, b2, g2⟩, [], la, ep⟩, n, a⟩ st (ptD ⟨true, true, true, true⟩).alts := fun st h => ⟨(), trivial, h⟩
  refine takes_of_treeQ hE (W_ok noS_ok noL_ok) noT_ok (.inr (by kernel_rfl)) (hp_below _) (pl1111 E [] [] [] k1 a1 b1 g1 k2 a2 b2 g2 la ep n a) ?_
  simp only [TreeQ.holds, rf_eq, w1, w2, w3, w4, w5, w6, w7, w8, w9, w10, w11, w12, Nat.zero_add, decide_eq_true_eq, decide_eq_false_iff_not, Bool.and_eq_true, List.length_nil, Int.natCast_zero, Int.ofNat_zero, Int.add_zero]
  repeat' (first | apply And.intro | intro _)
  all_goals first
    | (exfalso; omega)
    | omega
    | (refine fin _ ?_; rw [putP_o1 (by first | omega | (simp only [List.length_nil]; omega))]; rfl)
    | (refine fin _ ?_; rw [putP_o2 (by first | omega | (simp only [List.length_nil]; omega))]; rfl)
    | (refine fin _ ?_; rw [putP_q1 (i := (n - a - 1).toNat) (by first | omega | (simp only [List.length_nil]; omega)) (by first | omega | (simp only [List.length_nil]; omega)) (by first | omega | (simp only [List.length_nil]; omega))]; simp only [Pl.inB, Pl.boxI, Pl.stI, Pl.colI, Pl.qs, lsB, opsB_set, List.length_set, slV]; rfl)
    | (refine fin _ ?_; rw [putP_q2 (i := (n - (a + 1) - 1).toNat) (by first | omega | (simp only [List.length_nil]; omega)) (by first | omega | (simp only [List.length_nil]; omega))]; simp only [Pl.inB, Pl.boxI, Pl.stI, Pl.colI, Pl.qs, lsB, opsB_set, List.length_set, slV]; rfl)
end
end Go.Proofs.Ytompijagcjjamaa
