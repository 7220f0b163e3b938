/- Parts of the walk: those nodes that are right (q), as trees; those nodes that are right: rounds (printed by mk08p.py). -/
import Derived.Test.YtompijagcjjamaaG01
import Derived.Test.YtompijagcjjamaaG02

set_option linter.unusedSimpArgs false
set_option linter.unusedVariables false
namespace Go.Proofs.Ytompijagcjjamaa
open Ab
theorem thq_pre0 (T : Pt) (q0 : Int) (n m : Nat) (la ep i c : Int) : ((W (tabP T) noS noL 33 (false :: pPre) false (codeOf 33 (false :: pPre)) (mkT 59 (insPre (thY (.po q0)) (thP (.po q0)) ⟨false, n, m, la, ep⟩ i))).full ⟨hp 0 (thC (.po q0) ⟨false, n, m, la, ep⟩ true [] c), 6, [], []⟩ leafS).take 6 (.x (.n (.n (.c (.x (cs 8 (.leaf [0, 1, 2, 3, 4, 5] 7171)) (cs 9 (.leaf [0, 1, 2, 3, 4, 5] 7171)))))) (.leaf [0, 1, 2, 3, 4, 5] 3)) =
(let j0 : Blk := (.segs [⟨1, 1, [.val [.fn 28 [.ptr (.own 0 0 0 0)]]]⟩])
let i0 : Tree State := (.leaf (.normal, mkT 59 [(0, .yld 5), (1, .ptr (.own 4 0 0 0)), (10, .slice (.ro 0 0 0 0) n none), (11, .int .i64 (↑n : Int)), (12, .int .i64 (wr .i64 (i + 1)))], [(0, some (.segs [⟨1, 1, [.int .i64 [q0]]⟩])), (1, some j0), (2, some (.segs [⟨1, 1, [.val [.nils]]⟩])), (3, some (.segs [⟨1, 1, [.int .i64 [wr .i64 (c + 1)]]⟩])), (4, some (planB false n m la ep)), (5, some (thL (.po q0)))]))
(.br (decide (i < (↑n : Int))) (.need (decide (0 ≤ i) && decide (i < (↑n : Int))) (.need (decide (0 + Int.toNat i < List.length (Pt.pre T))) (.br (decide (0 = q0)) i0 i0))) (.leaf (.exit 0, mkT 59 [(0, .yld 5), (1, .ptr (.own 4 0 0 0))], [(0, some (.segs [⟨1, 1, [.int .i64 [q0]]⟩])), (1, some j0), (2, some (.segs [⟨1, 1, [.val [.nils]]⟩])), (3, some (.segs [⟨1, 1, [.int .i64 [c]]⟩])), (4, some (planB false n m la ep)), (5, some (thL (.po q0)))])))) := by kernel_rfl
theorem thq_po0f (T : Pt) (q0 : Int) (n m : Nat) (par q : Nat) (la ep p j c : Int) : ((W (tabP T) noS noL 33 (false :: pPo) false (codeOf 33 (false :: pPo)) (mkT 59 (insPo (thY (.po q0)) m p ⟨false, par, q⟩ j))).full ⟨hp 0 (thC (.po q0) ⟨false, n, m, la, ep⟩ true [] c), 6, [], []⟩ leafS).take 6 (.x (.n (.n (.c (.x (.c (.c (.x (.c (.t (.c (.c (.c (.x (cs 4 (.leaf [0, 1, 2, 3, 4, 5, 11] 15393397669921)) (.c (.leaf [0, 1, 2, 3, 4, 5] 15393397669921)))))))) (cs 5 (.leaf [0, 1, 2, 3, 4, 5] 15393397669921))))) (cs 9 (.leaf [0, 1, 2, 3, 4, 5] 15393397669921)))))) (.leaf [0, 1, 2, 3, 4, 5] 234881025)) =
(let m0 : Blk := (.segs [⟨1, 1, [.val [.fn 28 [.ptr (.own 0 0 0 0)]]]⟩])
let u0 : Blk := (.segs [⟨1, 1, [.int .i64 [q0]]⟩])
let w0 := (planB false n m la ep)
let v0 : Blk := (.segs [⟨1, 1, [.int .i64 [wr .i64 (c + 1)]]⟩])
let j0 : List (Nat × AVal) := [(0, .yld 5), (5, .int .i64 p), (25, .slice (.ro 1 0 0 0) m none), (26, .int .i64 (↑m : Int)), (27, .int .i64 p), (41, .slice (.ro 2 par 0 0) q none), (42, .int .i64 (↑q : Int)), (43, .int .i64 (wr .i64 (j + 1)))]
let i0 : Tree State := (.leaf (.normal, mkT 59 j0, [(0, some u0), (1, some m0), (2, some (.segs [⟨1, 1, [.val [.nils]]⟩])), (3, some v0), (4, some w0), (5, some (thL (.po q0)))]))
(.br (decide (j < (↑q : Int))) (.need (decide (0 ≤ j) && decide (j < (↑q : Int))) (.need (decide (0 + Int.toNat j < List.length (Pt.po T par))) (.br (decide (wr .i64 (p + 1) = q0)) (.br (decide (0 < wr .i64 (p + 1))) (.need (decide (0 < wr .i64 (p + 1))) (.br (!decide (wr .i64 (j + 1) = 0)) (.leaf (.normal, mkT 59 j0, [(0, some u0), (1, some m0), (2, some (.segs [⟨1, 1, [.val [.slice (.own 6 0 0 1) 1 none]]⟩])), (3, some v0), (4, some w0), (5, some (thL (.po q0))), (6, some (.segs [⟨1, 1, [.int .i64 (List.take 1 (List.drop 0 [c]))]⟩]))])) i0)) i0) i0))) (.leaf (.exit 4, mkT 59 [(0, .yld 5), (25, .slice (.ro 1 0 0 0) m none), (26, .int .i64 (↑m : Int)), (27, .int .i64 p)], [(0, some u0), (1, some m0), (2, some (.segs [⟨1, 1, [.val [.nils]]⟩])), (3, some (.segs [⟨1, 1, [.int .i64 [c]]⟩])), (4, some w0), (5, some (thL (.po q0)))])))) := by kernel_rfl
theorem thq_pe0f (T : Pt) (q0 : Int) (n m : Nat) (la ep p c : Int) : ((W (tabP T) noS noL 33 (false :: pPo) false (codeOf 33 (false :: pPo)) (mkT 59 (insPo (thY (.po q0)) m p ⟨true, 0, 0⟩ 0))).full ⟨hp 0 (thC (.po q0) ⟨false, n, m, la, ep⟩ true [] c), 6, [], []⟩ leafS).take 6 (.c (.leaf [0, 1, 2, 3, 4, 5] 234881025)) =
(.leaf (.exit 4, mkT 59 [(0, .yld 5), (25, .slice (.ro 1 0 0 0) m none), (26, .int .i64 (↑m : Int)), (27, .int .i64 p)], [(0, some (.segs [⟨1, 1, [.int .i64 [q0]]⟩])), (1, some (.segs [⟨1, 1, [.val [.fn 28 [.ptr (.own 0 0 0 0)]]]⟩])), (2, some (.segs [⟨1, 1, [.val [.nils]]⟩])), (3, some (.segs [⟨1, 1, [.int .i64 [c]]⟩])), (4, some (planB false n m la ep)), (5, some (thL (.po q0)))])) := by kernel_rfl
theorem thq_st0f (T : Pt) (q0 : Int) (n m : Nat) (la ep p c : Int) : ((execT (W (tabP T) noS noL) (thTPo T 1) 6 400 33 (false :: pSt) (codeOf 33 (false :: pSt)) (mkT 59 (insSt (thY (.po q0)) m p)) ⟨hp 0 (thC (.po q0) ⟨false, n, m, la, ep⟩ true [] c), 6, [], []⟩ leafQ)).take 6 (.x (.n (.n (.x (.c (.x (.c (.c (.x (.c (.t (csQ 6 (.n (.n (.n (.b (.a (.i (.leaf [0, 1, 2, 3, 4, 5, 6] 234881025))) (.a (.i (.leaf [0, 1, 2, 3, 4, 5] 234881025)))))))))) (csQ 6 (.n (.n (.n (.b (.a (.i (.leaf [0, 1, 2, 3, 4, 5, 6] 234881025))) (.a (.i (.leaf [0, 1, 2, 3, 4, 5] 234881025))))))))))) (csQ 10 (.n (.n (.n (.b (.a (.i (.leaf [0, 1, 2, 3, 4, 5, 6] 234881025))) (.a (.i (.leaf [0, 1, 2, 3, 4, 5] 234881025)))))))))) (.c (.x (.c (.c (.x (.c (.t (csQ 6 (.n (.n (.n (.b (.a (.i (.leaf [0, 1, 2, 3, 4, 5, 6] 234881025))) (.a (.i (.leaf [0, 1, 2, 3, 4, 5] 234881025)))))))))) (csQ 6 (.n (.n (.n (.b (.a (.i (.leaf [0, 1, 2, 3, 4, 5, 6] 234881025))) (.a (.i (.leaf [0, 1, 2, 3, 4, 5] 234881025))))))))))) (csQ 10 (.n (.n (.n (.b (.a (.i (.leaf [0, 1, 2, 3, 4, 5, 6] 234881025))) (.a (.i (.leaf [0, 1, 2, 3, 4, 5] 234881025))))))))))))) (.leaf [0, 1, 2, 3, 4, 5] 0)) =
(let z1 : Seg := ⟨1, 1, [.int .i64 [q0]]⟩
let q1 : Seg := ⟨1, 1, [.val [.nils]]⟩
let w1 : Seg := ⟨1, 1, [.val [.fn 28 [.ptr (.own 0 0 0 0)]]]⟩
let i0 := (okBl [.segs [z1], .segs [w1], .segs [q1], .segs [⟨1, 1, [.int .i64 [wr .i64 (c + 1)]]⟩], planB false n m la ep, thL (.po q0)] [.segs [z1], .segs [w1], .segs [q1], .segs [⟨1, 1, [.int .i64 [wr .i64 (c + 1)]]⟩], planB false n m la ep, thL (.po q0)])
let j0 : List (Nat × AVal) := [(0, .yld 5), (25, .slice (.ro 1 0 0 0) m none), (26, .int .i64 (↑m : Int)), (27, .int .i64 (wr .i64 (p + 1)))]
let m0 : Blk := (.segs [w1])
let j1 := (0 + Int.toNat p)
let u0 : Bool := (rf p && (rf m && true && (rf ((↑m : Int)) && (rf p && (rf j1 && true && (rf (List.getD (Pt.ns T) j1 0) && true) && (rf ((↑(List.getD (Pt.ns T) j1 0) : Int)) && true))))))
let v0 : Blk := (.segs [z1])
let w0 := (okT 100 true { l := [], n := wr .i64 (c + 1) } && okQ T p { f := false, par := 0 + Int.toNat p, q := List.getD (Pt.ns T) j1 0 })
let x0 := (planB false n m la ep)
let z0 := (List.getD [c] 0 0 + 1)
let i1 : Blk := (.segs [q1])
let m1 := (thL (.po q0))
let u1 : Bool := (rf p && (rf m && true && (rf ((↑m : Int)) && (rf p && true))))
let v1 := (okT 100 true { l := [], n := wr .i64 (c + 1) } && true)
let x1 : Bool := (decide (0 < wr .i64 (p + 1)))
(.br (decide (p < (↑m : Int))) (.need (decide (0 ≤ p) && decide (p < (↑m : Int))) (.need (decide (0 + Int.toNat p < List.length (Pt.st T))) (.br (List.getD (Pt.fs T) j1 true) (.br (decide (wr .i64 (p + 1) = q0)) (.br x1 (.need x1 (.need u1 (.need i0 (.need v1 (.both (.all (Ls) fun (y5 : Ls) => (.imp (thPoP T { r := rtOf 28 q0, b := true, s := { l := [], n := wr .i64 z0 }, w := ⟨false, n, m, la, ep⟩, p := p, y := { f := true, par := 0, q := 0 } } y5) (.leaf (.normal, mkT 59 j0, [(0, some v0), (1, some m0), (2, some (.segs [⟨1, 1, [.val [.slice (.own 6 0 0 1) (List.length (Ls.l y5)) none]]⟩])), (3, some (.segs [⟨1, 1, [.int .i64 [Ls.n y5]]⟩])), (4, some x0), (5, some m1), (6, some (.segs [⟨List.length (Ls.l y5), 1, [.int .i64 (Ls.l y5)]⟩]))])))) (.all (Int) fun (y5 : Int) => (.imp (thPoN T { r := rtOf 28 q0, b := true, s := { l := [], n := wr .i64 z0 }, w := ⟨false, n, m, la, ep⟩, p := p, y := { f := true, par := 0, q := 0 } } y5) (.leaf (.normal, mkT 59 j0, [(0, some v0), (1, some m0), (2, some i1), (3, some (.segs [⟨1, 1, [.int .i64 [y5]]⟩])), (4, some x0), (5, some m1)]))))))))) (.need u1 (.need i0 (.need v1 (.both (.all (Ls) fun (y5 : Ls) => (.imp (thPoP T { r := rtOf 28 q0, b := true, s := { l := [], n := wr .i64 z0 }, w := ⟨false, n, m, la, ep⟩, p := p, y := { f := true, par := 0, q := 0 } } y5) (.leaf (.normal, mkT 59 j0, [(0, some v0), (1, some m0), (2, some (.segs [⟨1, 1, [.val [.slice (.own 6 0 0 1) (List.length (Ls.l y5)) none]]⟩])), (3, some (.segs [⟨1, 1, [.int .i64 [Ls.n y5]]⟩])), (4, some x0), (5, some m1), (6, some (.segs [⟨List.length (Ls.l y5), 1, [.int .i64 (Ls.l y5)]⟩]))])))) (.all (Int) fun (y5 : Int) => (.imp (thPoN T { r := rtOf 28 q0, b := true, s := { l := [], n := wr .i64 z0 }, w := ⟨false, n, m, la, ep⟩, p := p, y := { f := true, par := 0, q := 0 } } y5) (.leaf (.normal, mkT 59 j0, [(0, some v0), (1, some m0), (2, some i1), (3, some (.segs [⟨1, 1, [.int .i64 [y5]]⟩])), (4, some x0), (5, some m1)]))))))))) (.need u1 (.need i0 (.need v1 (.both (.all (Ls) fun (y4 : Ls) => (.imp (thPoP T { r := rtOf 28 q0, b := true, s := { l := [], n := wr .i64 z0 }, w := ⟨false, n, m, la, ep⟩, p := p, y := { f := true, par := 0, q := 0 } } y4) (.leaf (.normal, mkT 59 j0, [(0, some v0), (1, some m0), (2, some (.segs [⟨1, 1, [.val [.slice (.own 6 0 0 1) (List.length (Ls.l y4)) none]]⟩])), (3, some (.segs [⟨1, 1, [.int .i64 [Ls.n y4]]⟩])), (4, some x0), (5, some m1), (6, some (.segs [⟨List.length (Ls.l y4), 1, [.int .i64 (Ls.l y4)]⟩]))])))) (.all (Int) fun (y4 : Int) => (.imp (thPoN T { r := rtOf 28 q0, b := true, s := { l := [], n := wr .i64 z0 }, w := ⟨false, n, m, la, ep⟩, p := p, y := { f := true, par := 0, q := 0 } } y4) (.leaf (.normal, mkT 59 j0, [(0, some v0), (1, some m0), (2, some i1), (3, some (.segs [⟨1, 1, [.int .i64 [y4]]⟩])), (4, some x0), (5, some m1)]))))))))) (.br (decide (wr .i64 (p + 1) = q0)) (.br x1 (.need x1 (.need u0 (.need i0 (.need w0 (.both (.all (Ls) fun (y5 : Ls) => (.imp (thPoP T { r := rtOf 28 q0, b := true, s := { l := [], n := wr .i64 z0 }, w := ⟨false, n, m, la, ep⟩, p := p, y := { f := false, par := 0 + Int.toNat p, q := List.getD (Pt.ns T) j1 0 } } y5) (.leaf (.normal, mkT 59 j0, [(0, some v0), (1, some m0), (2, some (.segs [⟨1, 1, [.val [.slice (.own 6 0 0 1) (List.length (Ls.l y5)) none]]⟩])), (3, some (.segs [⟨1, 1, [.int .i64 [Ls.n y5]]⟩])), (4, some x0), (5, some m1), (6, some (.segs [⟨List.length (Ls.l y5), 1, [.int .i64 (Ls.l y5)]⟩]))])))) (.all (Int) fun (y5 : Int) => (.imp (thPoN T { r := rtOf 28 q0, b := true, s := { l := [], n := wr .i64 z0 }, w := ⟨false, n, m, la, ep⟩, p := p, y := { f := false, par := 0 + Int.toNat p, q := List.getD (Pt.ns T) j1 0 } } y5) (.leaf (.normal, mkT 59 j0, [(0, some v0), (1, some m0), (2, some i1), (3, some (.segs [⟨1, 1, [.int .i64 [y5]]⟩])), (4, some x0), (5, some m1)]))))))))) (.need u0 (.need i0 (.need w0 (.both (.all (Ls) fun (y5 : Ls) => (.imp (thPoP T { r := rtOf 28 q0, b := true, s := { l := [], n := wr .i64 z0 }, w := ⟨false, n, m, la, ep⟩, p := p, y := { f := false, par := 0 + Int.toNat p, q := List.getD (Pt.ns T) j1 0 } } y5) (.leaf (.normal, mkT 59 j0, [(0, some v0), (1, some m0), (2, some (.segs [⟨1, 1, [.val [.slice (.own 6 0 0 1) (List.length (Ls.l y5)) none]]⟩])), (3, some (.segs [⟨1, 1, [.int .i64 [Ls.n y5]]⟩])), (4, some x0), (5, some m1), (6, some (.segs [⟨List.length (Ls.l y5), 1, [.int .i64 (Ls.l y5)]⟩]))])))) (.all (Int) fun (y5 : Int) => (.imp (thPoN T { r := rtOf 28 q0, b := true, s := { l := [], n := wr .i64 z0 }, w := ⟨false, n, m, la, ep⟩, p := p, y := { f := false, par := 0 + Int.toNat p, q := List.getD (Pt.ns T) j1 0 } } y5) (.leaf (.normal, mkT 59 j0, [(0, some v0), (1, some m0), (2, some i1), (3, some (.segs [⟨1, 1, [.int .i64 [y5]]⟩])), (4, some x0), (5, some m1)]))))))))) (.need u0 (.need i0 (.need w0 (.both (.all (Ls) fun (y4 : Ls) => (.imp (thPoP T { r := rtOf 28 q0, b := true, s := { l := [], n := wr .i64 z0 }, w := ⟨false, n, m, la, ep⟩, p := p, y := { f := false, par := 0 + Int.toNat p, q := List.getD (Pt.ns T) j1 0 } } y4) (.leaf (.normal, mkT 59 j0, [(0, some v0), (1, some m0), (2, some (.segs [⟨1, 1, [.val [.slice (.own 6 0 0 1) (List.length (Ls.l y4)) none]]⟩])), (3, some (.segs [⟨1, 1, [.int .i64 [Ls.n y4]]⟩])), (4, some x0), (5, some m1), (6, some (.segs [⟨List.length (Ls.l y4), 1, [.int .i64 (Ls.l y4)]⟩]))])))) (.all (Int) fun (y4 : Int) => (.imp (thPoN T { r := rtOf 28 q0, b := true, s := { l := [], n := wr .i64 z0 }, w := ⟨false, n, m, la, ep⟩, p := p, y := { f := false, par := 0 + Int.toNat p, q := List.getD (Pt.ns T) j1 0 } } y4) (.leaf (.normal, mkT 59 j0, [(0, some v0), (1, some m0), (2, some i1), (3, some (.segs [⟨1, 1, [.int .i64 [y4]]⟩])), (4, some x0), (5, some m1)])))))))))))) (.leaf (.exit 2, mkT 59 [], [(0, some v0), (1, some m0), (2, some i1), (3, some (.segs [⟨1, 1, [.int .i64 [c]]⟩])), (4, some x0), (5, some m1)])))) := by kernel_rfl
theorem thq_po0t (T : Pt) (q0 : Int) (m : Nat) (par q : Nat) (la ep p j c : Int) : ((W (tabP T) noS noL 33 (false :: pPo) false (codeOf 33 (false :: pPo)) (mkT 59 (insPo (thY (.po q0)) m p ⟨false, par, q⟩ j))).full ⟨hp 0 (thC (.po q0) ⟨true, 0, m, la, ep⟩ true [] c), 6, [], []⟩ leafS).take 6 (.x (.n (.n (.c (.x (.c (.c (.x (.c (.t (.c (.c (.c (.x (cs 4 (.leaf [0, 1, 2, 3, 4, 5, 11] 15393397669921)) (.c (.leaf [0, 1, 2, 3, 4, 5] 15393397669921)))))))) (cs 5 (.leaf [0, 1, 2, 3, 4, 5] 15393397669921))))) (cs 9 (.leaf [0, 1, 2, 3, 4, 5] 15393397669921)))))) (.leaf [0, 1, 2, 3, 4, 5] 234881025)) =
(let j0 : List (Nat × AVal) := [(0, .yld 5), (5, .int .i64 p), (25, .slice (.ro 1 0 0 0) m none), (26, .int .i64 (↑m : Int)), (27, .int .i64 p), (41, .slice (.ro 2 par 0 0) q none), (42, .int .i64 (↑q : Int)), (43, .int .i64 (wr .i64 (j + 1)))]
let m0 : Blk := (.segs [⟨1, 1, [.val [.fn 28 [.ptr (.own 0 0 0 0)]]]⟩])
let u0 : Blk := (.segs [⟨1, 1, [.int .i64 [q0]]⟩])
let v0 : Blk := (.segs [⟨1, 1, [.int .i64 [wr .i64 (c + 1)]]⟩])
let i0 : Tree State := (.leaf (.normal, mkT 59 j0, [(0, some u0), (1, some m0), (2, some (.segs [⟨1, 1, [.val [.nils]]⟩])), (3, some v0), (4, some (planB true 0 m la ep)), (5, some (thL (.po q0)))]))
(.br (decide (j < (↑q : Int))) (.need (decide (0 ≤ j) && decide (j < (↑q : Int))) (.need (decide (0 + Int.toNat j < List.length (Pt.po T par))) (.br (decide (wr .i64 (p + 1) = q0)) (.br (decide (0 < wr .i64 (p + 1))) (.need (decide (0 < wr .i64 (p + 1))) (.br (!decide (wr .i64 (j + 1) = 0)) (.leaf (.normal, mkT 59 j0, [(0, some u0), (1, some m0), (2, some (.segs [⟨1, 1, [.val [.slice (.own 6 0 0 1) 1 none]]⟩])), (3, some v0), (4, some (planB true 0 m la ep)), (5, some (thL (.po q0))), (6, some (.segs [⟨1, 1, [.int .i64 (List.take 1 (List.drop 0 [c]))]⟩]))])) i0)) i0) i0))) (.leaf (.exit 4, mkT 59 [(0, .yld 5), (25, .slice (.ro 1 0 0 0) m none), (26, .int .i64 (↑m : Int)), (27, .int .i64 p)], [(0, some u0), (1, some m0), (2, some (.segs [⟨1, 1, [.val [.nils]]⟩])), (3, some (.segs [⟨1, 1, [.int .i64 [c]]⟩])), (4, some (planB true 0 m la ep)), (5, some (thL (.po q0)))])))) := by kernel_rfl
theorem thq_pe0t (T : Pt) (q0 : Int) (m : Nat) (la ep p c : Int) : ((W (tabP T) noS noL 33 (false :: pPo) false (codeOf 33 (false :: pPo)) (mkT 59 (insPo (thY (.po q0)) m p ⟨true, 0, 0⟩ 0))).full ⟨hp 0 (thC (.po q0) ⟨true, 0, m, la, ep⟩ true [] c), 6, [], []⟩ leafS).take 6 (.c (.leaf [0, 1, 2, 3, 4, 5] 234881025)) =
(.leaf (.exit 4, mkT 59 [(0, .yld 5), (25, .slice (.ro 1 0 0 0) m none), (26, .int .i64 (↑m : Int)), (27, .int .i64 p)], [(0, some (.segs [⟨1, 1, [.int .i64 [q0]]⟩])), (1, some (.segs [⟨1, 1, [.val [.fn 28 [.ptr (.own 0 0 0 0)]]]⟩])), (2, some (.segs [⟨1, 1, [.val [.nils]]⟩])), (3, some (.segs [⟨1, 1, [.int .i64 [c]]⟩])), (4, some (planB true 0 m la ep)), (5, some (thL (.po q0)))])) := by kernel_rfl
theorem thq_st0t (T : Pt) (q0 : Int) (m : Nat) (la ep p c : Int) : ((execT (W (tabP T) noS noL) (thTPo T 1) 6 400 33 (false :: pSt) (codeOf 33 (false :: pSt)) (mkT 59 (insSt (thY (.po q0)) m p)) ⟨hp 0 (thC (.po q0) ⟨true, 0, m, la, ep⟩ true [] c), 6, [], []⟩ leafQ)).take 6 (.x (.n (.n (.x (.c (.x (.c (.c (.x (.c (.t (csQ 6 (.n (.n (.n (.b (.a (.i (.leaf [0, 1, 2, 3, 4, 5, 6] 234881025))) (.a (.i (.leaf [0, 1, 2, 3, 4, 5] 234881025)))))))))) (csQ 6 (.n (.n (.n (.b (.a (.i (.leaf [0, 1, 2, 3, 4, 5, 6] 234881025))) (.a (.i (.leaf [0, 1, 2, 3, 4, 5] 234881025))))))))))) (csQ 10 (.n (.n (.n (.b (.a (.i (.leaf [0, 1, 2, 3, 4, 5, 6] 234881025))) (.a (.i (.leaf [0, 1, 2, 3, 4, 5] 234881025)))))))))) (.c (.x (.c (.c (.x (.c (.t (csQ 6 (.n (.n (.n (.b (.a (.i (.leaf [0, 1, 2, 3, 4, 5, 6] 234881025))) (.a (.i (.leaf [0, 1, 2, 3, 4, 5] 234881025)))))))))) (csQ 6 (.n (.n (.n (.b (.a (.i (.leaf [0, 1, 2, 3, 4, 5, 6] 234881025))) (.a (.i (.leaf [0, 1, 2, 3, 4, 5] 234881025))))))))))) (csQ 10 (.n (.n (.n (.b (.a (.i (.leaf [0, 1, 2, 3, 4, 5, 6] 234881025))) (.a (.i (.leaf [0, 1, 2, 3, 4, 5] 234881025))))))))))))) (.leaf [0, 1, 2, 3, 4, 5] 0)) =
(let z1 : Seg := ⟨1, 1, [.int .i64 [q0]]⟩
let q1 : Seg := ⟨1, 1, [.val [.nils]]⟩
let w1 : Seg := ⟨1, 1, [.val [.fn 28 [.ptr (.own 0 0 0 0)]]]⟩
let i0 := (okBl [.segs [z1], .segs [w1], .segs [q1], .segs [⟨1, 1, [.int .i64 [wr .i64 (c + 1)]]⟩], planB true 0 m la ep, thL (.po q0)] [.segs [z1], .segs [w1], .segs [q1], .segs [⟨1, 1, [.int .i64 [wr .i64 (c + 1)]]⟩], planB true 0 m la ep, thL (.po q0)])
let j0 : List (Nat × AVal) := [(0, .yld 5), (25, .slice (.ro 1 0 0 0) m none), (26, .int .i64 (↑m : Int)), (27, .int .i64 (wr .i64 (p + 1)))]
let m0 : Blk := (.segs [w1])
let j1 := (0 + Int.toNat p)
let u0 : Bool := (rf p && (rf m && true && (rf ((↑m : Int)) && (rf p && (rf j1 && true && (rf (List.getD (Pt.ns T) j1 0) && true) && (rf ((↑(List.getD (Pt.ns T) j1 0) : Int)) && true))))))
let v0 : Blk := (.segs [z1])
let w0 := (okT 100 true { l := [], n := wr .i64 (c + 1) } && okQ T p { f := false, par := 0 + Int.toNat p, q := List.getD (Pt.ns T) j1 0 })
let x0 := (planB true 0 m la ep)
let z0 := (List.getD [c] 0 0 + 1)
let i1 : Blk := (.segs [q1])
let m1 := (thL (.po q0))
let u1 : Bool := (rf p && (rf m && true && (rf ((↑m : Int)) && (rf p && true))))
let v1 := (okT 100 true { l := [], n := wr .i64 (c + 1) } && true)
let x1 : Bool := (decide (0 < wr .i64 (p + 1)))
(.br (decide (p < (↑m : Int))) (.need (decide (0 ≤ p) && decide (p < (↑m : Int))) (.need (decide (0 + Int.toNat p < List.length (Pt.st T))) (.br (List.getD (Pt.fs T) j1 true) (.br (decide (wr .i64 (p + 1) = q0)) (.br x1 (.need x1 (.need u1 (.need i0 (.need v1 (.both (.all (Ls) fun (y5 : Ls) => (.imp (thPoP T { r := rtOf 28 q0, b := true, s := { l := [], n := wr .i64 z0 }, w := ⟨true, 0, m, la, ep⟩, p := p, y := { f := true, par := 0, q := 0 } } y5) (.leaf (.normal, mkT 59 j0, [(0, some v0), (1, some m0), (2, some (.segs [⟨1, 1, [.val [.slice (.own 6 0 0 1) (List.length (Ls.l y5)) none]]⟩])), (3, some (.segs [⟨1, 1, [.int .i64 [Ls.n y5]]⟩])), (4, some x0), (5, some m1), (6, some (.segs [⟨List.length (Ls.l y5), 1, [.int .i64 (Ls.l y5)]⟩]))])))) (.all (Int) fun (y5 : Int) => (.imp (thPoN T { r := rtOf 28 q0, b := true, s := { l := [], n := wr .i64 z0 }, w := ⟨true, 0, m, la, ep⟩, p := p, y := { f := true, par := 0, q := 0 } } y5) (.leaf (.normal, mkT 59 j0, [(0, some v0), (1, some m0), (2, some i1), (3, some (.segs [⟨1, 1, [.int .i64 [y5]]⟩])), (4, some x0), (5, some m1)]))))))))) (.need u1 (.need i0 (.need v1 (.both (.all (Ls) fun (y5 : Ls) => (.imp (thPoP T { r := rtOf 28 q0, b := true, s := { l := [], n := wr .i64 z0 }, w := ⟨true, 0, m, la, ep⟩, p := p, y := { f := true, par := 0, q := 0 } } y5) (.leaf (.normal, mkT 59 j0, [(0, some v0), (1, some m0), (2, some (.segs [⟨1, 1, [.val [.slice (.own 6 0 0 1) (List.length (Ls.l y5)) none]]⟩])), (3, some (.segs [⟨1, 1, [.int .i64 [Ls.n y5]]⟩])), (4, some x0), (5, some m1), (6, some (.segs [⟨List.length (Ls.l y5), 1, [.int .i64 (Ls.l y5)]⟩]))])))) (.all (Int) fun (y5 : Int) => (.imp (thPoN T { r := rtOf 28 q0, b := true, s := { l := [], n := wr .i64 z0 }, w := ⟨true, 0, m, la, ep⟩, p := p, y := { f := true, par := 0, q := 0 } } y5) (.leaf (.normal, mkT 59 j0, [(0, some v0), (1, some m0), (2, some i1), (3, some (.segs [⟨1, 1, [.int .i64 [y5]]⟩])), (4, some x0), (5, some m1)]))))))))) (.need u1 (.need i0 (.need v1 (.both (.all (Ls) fun (y4 : Ls) => (.imp (thPoP T { r := rtOf 28 q0, b := true, s := { l := [], n := wr .i64 z0 }, w := ⟨true, 0, m, la, ep⟩, p := p, y := { f := true, par := 0, q := 0 } } y4) (.leaf (.normal, mkT 59 j0, [(0, some v0), (1, some m0), (2, some (.segs [⟨1, 1, [.val [.slice (.own 6 0 0 1) (List.length (Ls.l y4)) none]]⟩])), (3, some (.segs [⟨1, 1, [.int .i64 [Ls.n y4]]⟩])), (4, some x0), (5, some m1), (6, some (.segs [⟨List.length (Ls.l y4), 1, [.int .i64 (Ls.l y4)]⟩]))])))) (.all (Int) fun (y4 : Int) => (.imp (thPoN T { r := rtOf 28 q0, b := true, s := { l := [], n := wr .i64 z0 }, w := ⟨true, 0, m, la, ep⟩, p := p, y := { f := true, par := 0, q := 0 } } y4) (.leaf (.normal, mkT 59 j0, [(0, some v0), (1, some m0), (2, some i1), (3, some (.segs [⟨1, 1, [.int .i64 [y4]]⟩])), (4, some x0), (5, some m1)]))))))))) (.br (decide (wr .i64 (p + 1) = q0)) (.br x1 (.need x1 (.need u0 (.need i0 (.need w0 (.both (.all (Ls) fun (y5 : Ls) => (.imp (thPoP T { r := rtOf 28 q0, b := true, s := { l := [], n := wr .i64 z0 }, w := ⟨true, 0, m, la, ep⟩, p := p, y := { f := false, par := 0 + Int.toNat p, q := List.getD (Pt.ns T) j1 0 } } y5) (.leaf (.normal, mkT 59 j0, [(0, some v0), (1, some m0), (2, some (.segs [⟨1, 1, [.val [.slice (.own 6 0 0 1) (List.length (Ls.l y5)) none]]⟩])), (3, some (.segs [⟨1, 1, [.int .i64 [Ls.n y5]]⟩])), (4, some x0), (5, some m1), (6, some (.segs [⟨List.length (Ls.l y5), 1, [.int .i64 (Ls.l y5)]⟩]))])))) (.all (Int) fun (y5 : Int) => (.imp (thPoN T { r := rtOf 28 q0, b := true, s := { l := [], n := wr .i64 z0 }, w := ⟨true, 0, m, la, ep⟩, p := p, y := { f := false, par := 0 + Int.toNat p, q := List.getD (Pt.ns T) j1 0 } } y5) (.leaf (.normal, mkT 59 j0, [(0, some v0), (1, some m0), (2, some i1), (3, some (.segs [⟨1, 1, [.int .i64 [y5]]⟩])), (4, some x0), (5, some m1)]))))))))) (.need u0 (.need i0 (.need w0 (.both (.all (Ls) fun (y5 : Ls) => (.imp (thPoP T { r := rtOf 28 q0, b := true, s := { l := [], n := wr .i64 z0 }, w := ⟨true, 0, m, la, ep⟩, p := p, y := { f := false, par := 0 + Int.toNat p, q := List.getD (Pt.ns T) j1 0 } } y5) (.leaf (.normal, mkT 59 j0, [(0, some v0), (1, some m0), (2, some (.segs [⟨1, 1, [.val [.slice (.own 6 0 0 1) (List.length (Ls.l y5)) none]]⟩])), (3, some (.segs [⟨1, 1, [.int .i64 [Ls.n y5]]⟩])), (4, some x0), (5, some m1), (6, some (.segs [⟨List.length (Ls.l y5), 1, [.int .i64 (Ls.l y5)]⟩]))])))) (.all (Int) fun (y5 : Int) => (.imp (thPoN T { r := rtOf 28 q0, b := true, s := { l := [], n := wr .i64 z0 }, w := ⟨true, 0, m, la, ep⟩, p := p, y := { f := false, par := 0 + Int.toNat p, q := List.getD (Pt.ns T) j1 0 } } y5) (.leaf (.normal, mkT 59 j0, [(0, some v0), (1, some m0), (2, some i1), (3, some (.segs [⟨1, 1, [.int .i64 [y5]]⟩])), (4, some x0), (5, some m1)]))))))))) (.need u0 (.need i0 (.need w0 (.both (.all (Ls) fun (y4 : Ls) => (.imp (thPoP T { r := rtOf 28 q0, b := true, s := { l := [], n := wr .i64 z0 }, w := ⟨true, 0, m, la, ep⟩, p := p, y := { f := false, par := 0 + Int.toNat p, q := List.getD (Pt.ns T) j1 0 } } y4) (.leaf (.normal, mkT 59 j0, [(0, some v0), (1, some m0), (2, some (.segs [⟨1, 1, [.val [.slice (.own 6 0 0 1) (List.length (Ls.l y4)) none]]⟩])), (3, some (.segs [⟨1, 1, [.int .i64 [Ls.n y4]]⟩])), (4, some x0), (5, some m1), (6, some (.segs [⟨List.length (Ls.l y4), 1, [.int .i64 (Ls.l y4)]⟩]))])))) (.all (Int) fun (y4 : Int) => (.imp (thPoN T { r := rtOf 28 q0, b := true, s := { l := [], n := wr .i64 z0 }, w := ⟨true, 0, m, la, ep⟩, p := p, y := { f := false, par := 0 + Int.toNat p, q := List.getD (Pt.ns T) j1 0 } } y4) (.leaf (.normal, mkT 59 j0, [(0, some v0), (1, some m0), (2, some i1), (3, some (.segs [⟨1, 1, [.int .i64 [y4]]⟩])), (4, some x0), (5, some m1)])))))))))))) (.leaf (.exit 2, mkT 59 [], [(0, some v0), (1, some m0), (2, some i1), (3, some (.segs [⟨1, 1, [.int .i64 [c]]⟩])), (4, some x0), (5, some m1)])))) := by kernel_rfl
theorem thq_pre1 (T : Pt) (q0 : Int) (n m : Nat) (la ep i c : Int) (l : List Int) : ((W (tabP T) noS noL 33 (false :: pPre) false (codeOf 33 (false :: pPre)) (mkT 59 (insPre (thY (.po q0)) (thP (.po q0)) ⟨false, n, m, la, ep⟩ i))).full ⟨hp 0 (thC (.po q0) ⟨false, n, m, la, ep⟩ false l c), 7, [], []⟩ leafS).take 6 (.x (.n (.n (.c (.x (cs 8 (.leaf [0, 1, 2, 3, 4, 5, 6] 7171)) (cs 9 (.leaf [0, 1, 2, 3, 4, 5, 6] 7171)))))) (.leaf [0, 1, 2, 3, 4, 5, 6] 3)) =
(let j0 : Blk := (.segs [⟨1, 1, [.val [.slice (.own 6 0 0 1) (List.length l) none]]⟩])
let m0 : Blk := (.segs [⟨1, 1, [.val [.fn 28 [.ptr (.own 0 0 0 0)]]]⟩])
let u0 : Blk := (.segs [⟨List.length l, 1, [.int .i64 l]⟩])
let i0 : Tree State := (.leaf (.normal, mkT 59 [(0, .yld 5), (1, .ptr (.own 4 0 0 0)), (10, .slice (.ro 0 0 0 0) n none), (11, .int .i64 (↑n : Int)), (12, .int .i64 (wr .i64 (i + 1)))], [(0, some (.segs [⟨1, 1, [.int .i64 [q0]]⟩])), (1, some m0), (2, some j0), (3, some (.segs [⟨1, 1, [.int .i64 [wr .i64 (c + 1)]]⟩])), (4, some (planB false n m la ep)), (5, some (thL (.po q0))), (6, some u0)]))
(.br (decide (i < (↑n : Int))) (.need (decide (0 ≤ i) && decide (i < (↑n : Int))) (.need (decide (0 + Int.toNat i < List.length (Pt.pre T))) (.br (decide (0 = q0)) i0 i0))) (.leaf (.exit 0, mkT 59 [(0, .yld 5), (1, .ptr (.own 4 0 0 0))], [(0, some (.segs [⟨1, 1, [.int .i64 [q0]]⟩])), (1, some m0), (2, some j0), (3, some (.segs [⟨1, 1, [.int .i64 [c]]⟩])), (4, some (planB false n m la ep)), (5, some (thL (.po q0))), (6, some u0)])))) := by kernel_rfl
theorem thq_po1f (T : Pt) (q0 : Int) (n m : Nat) (par q : Nat) (la ep p j c : Int) (l : List Int) : ((W (tabP T) noS noL 33 (false :: pPo) false (codeOf 33 (false :: pPo)) (mkT 59 (insPo (thY (.po q0)) m p ⟨false, par, q⟩ j))).full ⟨hp 0 (thC (.po q0) ⟨false, n, m, la, ep⟩ false l c), 7, [], []⟩ leafS).take 6 (.x (.n (.n (.c (.x (.c (.c (.x (.c (.t (.c (.c (.c (.x (.n (.n (.c (.c (.c (.leaf [0, 1, 2, 3, 4, 5, 12] 15393397669921)))))) (.c (.leaf [0, 1, 2, 3, 4, 5, 6] 15393397669921)))))))) (cs 5 (.leaf [0, 1, 2, 3, 4, 5, 6] 15393397669921))))) (cs 9 (.leaf [0, 1, 2, 3, 4, 5, 6] 15393397669921)))))) (.leaf [0, 1, 2, 3, 4, 5, 6] 234881025)) =
(let m0 : Blk := (.segs [⟨1, 1, [.val [.fn 28 [.ptr (.own 0 0 0 0)]]]⟩])
let u0 : Blk := (.segs [⟨1, 1, [.int .i64 [q0]]⟩])
let x0 := (planB false n m la ep)
let w0 : Blk := (.segs [⟨1, 1, [.int .i64 [wr .i64 (c + 1)]]⟩])
let v0 : Blk := (.segs [⟨1, 1, [.val [.slice (.own 6 0 0 1) (List.length l) none]]⟩])
let z0 : Blk := (.segs [⟨List.length l, 1, [.int .i64 l]⟩])
let j0 : List (Nat × AVal) := [(0, .yld 5), (5, .int .i64 p), (25, .slice (.ro 1 0 0 0) m none), (26, .int .i64 (↑m : Int)), (27, .int .i64 p), (41, .slice (.ro 2 par 0 0) q none), (42, .int .i64 (↑q : Int)), (43, .int .i64 (wr .i64 (j + 1)))]
let i0 : Tree State := (.leaf (.normal, mkT 59 j0, [(0, some u0), (1, some m0), (2, some v0), (3, some w0), (4, some x0), (5, some (thL (.po q0))), (6, some z0)]))
(.br (decide (j < (↑q : Int))) (.need (decide (0 ≤ j) && decide (j < (↑q : Int))) (.need (decide (0 + Int.toNat j < List.length (Pt.po T par))) (.br (decide (wr .i64 (p + 1) = q0)) (.br (decide (0 < wr .i64 (p + 1))) (.need (decide (0 < wr .i64 (p + 1))) (.br (!decide (wr .i64 (j + 1) = 0)) (.need (decide ((List.length l + 1) * 8 ≤ 35184372088832)) (.need (decide (0 + List.length l ≤ List.length l)) (.leaf (.normal, mkT 59 j0, [(0, some u0), (1, some m0), (2, some (.segs [⟨1, 1, [.val [.slice (.own 6 0 0 1) (List.length l + 1) none]]⟩])), (3, some w0), (4, some x0), (5, some (thL (.po q0))), (6, some (.segs [⟨List.length l + 1, 1, [.int .i64 (List.take (List.length l) (List.drop 0 l) ++ List.take 1 (List.drop 0 [c]))]⟩]))])))) i0)) i0) i0))) (.leaf (.exit 4, mkT 59 [(0, .yld 5), (25, .slice (.ro 1 0 0 0) m none), (26, .int .i64 (↑m : Int)), (27, .int .i64 p)], [(0, some u0), (1, some m0), (2, some v0), (3, some (.segs [⟨1, 1, [.int .i64 [c]]⟩])), (4, some x0), (5, some (thL (.po q0))), (6, some z0)])))) := by kernel_rfl
theorem thq_pe1f (T : Pt) (q0 : Int) (n m : Nat) (la ep p c : Int) (l : List Int) : ((W (tabP T) noS noL 33 (false :: pPo) false (codeOf 33 (false :: pPo)) (mkT 59 (insPo (thY (.po q0)) m p ⟨true, 0, 0⟩ 0))).full ⟨hp 0 (thC (.po q0) ⟨false, n, m, la, ep⟩ false l c), 7, [], []⟩ leafS).take 6 (.c (.leaf [0, 1, 2, 3, 4, 5, 6] 234881025)) =
(.leaf (.exit 4, mkT 59 [(0, .yld 5), (25, .slice (.ro 1 0 0 0) m none), (26, .int .i64 (↑m : Int)), (27, .int .i64 p)], [(0, some (.segs [⟨1, 1, [.int .i64 [q0]]⟩])), (1, some (.segs [⟨1, 1, [.val [.fn 28 [.ptr (.own 0 0 0 0)]]]⟩])), (2, some (.segs [⟨1, 1, [.val [.slice (.own 6 0 0 1) (List.length l) none]]⟩])), (3, some (.segs [⟨1, 1, [.int .i64 [c]]⟩])), (4, some (planB false n m la ep)), (5, some (thL (.po q0))), (6, some (.segs [⟨List.length l, 1, [.int .i64 l]⟩]))])) := by kernel_rfl
theorem thq_st1f (T : Pt) (q0 : Int) (n m : Nat) (la ep p c : Int) (l : List Int) : ((execT (W (tabP T) noS noL) (thTPo T 1) 6 400 33 (false :: pSt) (codeOf 33 (false :: pSt)) (mkT 59 (insSt (thY (.po q0)) m p)) ⟨hp 0 (thC (.po q0) ⟨false, n, m, la, ep⟩ false l c), 7, [], []⟩ leafQ)).take 6 (.x (.n (.n (.x (.c (.x (.c (.c (.x (.c (.t (csQ 6 (.n (.n (.n (.b (.a (.i (.leaf [0, 1, 2, 3, 4, 5, 6] 234881025))) (.a (.i (.leaf [0, 1, 2, 3, 4, 5] 234881025)))))))))) (csQ 6 (.n (.n (.n (.b (.a (.i (.leaf [0, 1, 2, 3, 4, 5, 6] 234881025))) (.a (.i (.leaf [0, 1, 2, 3, 4, 5] 234881025))))))))))) (csQ 10 (.n (.n (.n (.b (.a (.i (.leaf [0, 1, 2, 3, 4, 5, 6] 234881025))) (.a (.i (.leaf [0, 1, 2, 3, 4, 5] 234881025)))))))))) (.c (.x (.c (.c (.x (.c (.t (csQ 6 (.n (.n (.n (.b (.a (.i (.leaf [0, 1, 2, 3, 4, 5, 6] 234881025))) (.a (.i (.leaf [0, 1, 2, 3, 4, 5] 234881025)))))))))) (csQ 6 (.n (.n (.n (.b (.a (.i (.leaf [0, 1, 2, 3, 4, 5, 6] 234881025))) (.a (.i (.leaf [0, 1, 2, 3, 4, 5] 234881025))))))))))) (csQ 10 (.n (.n (.n (.b (.a (.i (.leaf [0, 1, 2, 3, 4, 5, 6] 234881025))) (.a (.i (.leaf [0, 1, 2, 3, 4, 5] 234881025))))))))))))) (.leaf [0, 1, 2, 3, 4, 5, 6] 0)) =
(let z1 : Seg := ⟨List.length l, 1, [.int .i64 l]⟩
let i2 : Seg := ⟨1, 1, [.int .i64 [q0]]⟩
let q1 : Seg := ⟨1, 1, [.val [.slice (.own 6 0 0 1) (List.length l) none]]⟩
let w1 : Seg := ⟨1, 1, [.val [.fn 28 [.ptr (.own 0 0 0 0)]]]⟩
let i0 := (okBl [.segs [i2], .segs [w1], .segs [q1], .segs [⟨1, 1, [.int .i64 [wr .i64 (c + 1)]]⟩], planB false n m la ep, thL (.po q0), .segs [z1]] [.segs [i2], .segs [w1], .segs [⟨1, 1, [.val [.slice (.own (Rt.j (rtOf 28 q0)) 0 0 1) (List.length l) none]]⟩], .segs [⟨1, 1, [.int .i64 [wr .i64 (c + 1)]]⟩], planB false n m la ep, thL (.po q0), .segs [z1]])
let j0 : List (Nat × AVal) := [(0, .yld 5), (25, .slice (.ro 1 0 0 0) m none), (26, .int .i64 (↑m : Int)), (27, .int .i64 (wr .i64 (p + 1)))]
let m0 : Blk := (.segs [w1])
let j1 := (0 + Int.toNat p)
let u0 : Bool := (rf p && (rf m && true && (rf ((↑m : Int)) && (rf p && (rf j1 && true && (rf (List.getD (Pt.ns T) j1 0) && true) && (rf ((↑(List.getD (Pt.ns T) j1 0) : Int)) && true))))))
let v0 : Blk := (.segs [i2])
let w0 := (okT 100 false { l := l, n := wr .i64 (c + 1) } && okQ T p { f := false, par := 0 + Int.toNat p, q := List.getD (Pt.ns T) j1 0 })
let x0 := (planB false n m la ep)
let z0 := (List.getD [c] 0 0 + 1)
let i1 : Blk := (.segs [⟨1, 1, [.val [.nils]]⟩])
let m1 := (thL (.po q0))
let u1 : Bool := (rf p && (rf m && true && (rf ((↑m : Int)) && (rf p && true))))
let v1 := (okT 100 false { l := l, n := wr .i64 (c + 1) } && true)
let x1 : Bool := (decide (0 < wr .i64 (p + 1)))
(.br (decide (p < (↑m : Int))) (.need (decide (0 ≤ p) && decide (p < (↑m : Int))) (.need (decide (0 + Int.toNat p < List.length (Pt.st T))) (.br (List.getD (Pt.fs T) j1 true) (.br (decide (wr .i64 (p + 1) = q0)) (.br x1 (.need x1 (.need u1 (.need i0 (.need v1 (.both (.all (Ls) fun (y5 : Ls) => (.imp (thPoP T { r := rtOf 28 q0, b := false, s := { l := l, n := wr .i64 z0 }, w := ⟨false, n, m, la, ep⟩, p := p, y := { f := true, par := 0, q := 0 } } y5) (.leaf (.normal, mkT 59 j0, [(0, some v0), (1, some m0), (2, some (.segs [⟨1, 1, [.val [.slice (.own 6 0 0 1) (List.length (Ls.l y5)) none]]⟩])), (3, some (.segs [⟨1, 1, [.int .i64 [Ls.n y5]]⟩])), (4, some x0), (5, some m1), (6, some (.segs [⟨List.length (Ls.l y5), 1, [.int .i64 (Ls.l y5)]⟩]))])))) (.all (Int) fun (y5 : Int) => (.imp (thPoN T { r := rtOf 28 q0, b := false, s := { l := l, n := wr .i64 z0 }, w := ⟨false, n, m, la, ep⟩, p := p, y := { f := true, par := 0, q := 0 } } y5) (.leaf (.normal, mkT 59 j0, [(0, some v0), (1, some m0), (2, some i1), (3, some (.segs [⟨1, 1, [.int .i64 [y5]]⟩])), (4, some x0), (5, some m1)]))))))))) (.need u1 (.need i0 (.need v1 (.both (.all (Ls) fun (y5 : Ls) => (.imp (thPoP T { r := rtOf 28 q0, b := false, s := { l := l, n := wr .i64 z0 }, w := ⟨false, n, m, la, ep⟩, p := p, y := { f := true, par := 0, q := 0 } } y5) (.leaf (.normal, mkT 59 j0, [(0, some v0), (1, some m0), (2, some (.segs [⟨1, 1, [.val [.slice (.own 6 0 0 1) (List.length (Ls.l y5)) none]]⟩])), (3, some (.segs [⟨1, 1, [.int .i64 [Ls.n y5]]⟩])), (4, some x0), (5, some m1), (6, some (.segs [⟨List.length (Ls.l y5), 1, [.int .i64 (Ls.l y5)]⟩]))])))) (.all (Int) fun (y5 : Int) => (.imp (thPoN T { r := rtOf 28 q0, b := false, s := { l := l, n := wr .i64 z0 }, w := ⟨false, n, m, la, ep⟩, p := p, y := { f := true, par := 0, q := 0 } } y5) (.leaf (.normal, mkT 59 j0, [(0, some v0), (1, some m0), (2, some i1), (3, some (.segs [⟨1, 1, [.int .i64 [y5]]⟩])), (4, some x0), (5, some m1)]))))))))) (.need u1 (.need i0 (.need v1 (.both (.all (Ls) fun (y4 : Ls) => (.imp (thPoP T { r := rtOf 28 q0, b := false, s := { l := l, n := wr .i64 z0 }, w := ⟨false, n, m, la, ep⟩, p := p, y := { f := true, par := 0, q := 0 } } y4) (.leaf (.normal, mkT 59 j0, [(0, some v0), (1, some m0), (2, some (.segs [⟨1, 1, [.val [.slice (.own 6 0 0 1) (List.length (Ls.l y4)) none]]⟩])), (3, some (.segs [⟨1, 1, [.int .i64 [Ls.n y4]]⟩])), (4, some x0), (5, some m1), (6, some (.segs [⟨List.length (Ls.l y4), 1, [.int .i64 (Ls.l y4)]⟩]))])))) (.all (Int) fun (y4 : Int) => (.imp (thPoN T { r := rtOf 28 q0, b := false, s := { l := l, n := wr .i64 z0 }, w := ⟨false, n, m, la, ep⟩, p := p, y := { f := true, par := 0, q := 0 } } y4) (.leaf (.normal, mkT 59 j0, [(0, some v0), (1, some m0), (2, some i1), (3, some (.segs [⟨1, 1, [.int .i64 [y4]]⟩])), (4, some x0), (5, some m1)]))))))))) (.br (decide (wr .i64 (p + 1) = q0)) (.br x1 (.need x1 (.need u0 (.need i0 (.need w0 (.both (.all (Ls) fun (y5 : Ls) => (.imp (thPoP T { r := rtOf 28 q0, b := false, s := { l := l, n := wr .i64 z0 }, w := ⟨false, n, m, la, ep⟩, p := p, y := { f := false, par := 0 + Int.toNat p, q := List.getD (Pt.ns T) j1 0 } } y5) (.leaf (.normal, mkT 59 j0, [(0, some v0), (1, some m0), (2, some (.segs [⟨1, 1, [.val [.slice (.own 6 0 0 1) (List.length (Ls.l y5)) none]]⟩])), (3, some (.segs [⟨1, 1, [.int .i64 [Ls.n y5]]⟩])), (4, some x0), (5, some m1), (6, some (.segs [⟨List.length (Ls.l y5), 1, [.int .i64 (Ls.l y5)]⟩]))])))) (.all (Int) fun (y5 : Int) => (.imp (thPoN T { r := rtOf 28 q0, b := false, s := { l := l, n := wr .i64 z0 }, w := ⟨false, n, m, la, ep⟩, p := p, y := { f := false, par := 0 + Int.toNat p, q := List.getD (Pt.ns T) j1 0 } } y5) (.leaf (.normal, mkT 59 j0, [(0, some v0), (1, some m0), (2, some i1), (3, some (.segs [⟨1, 1, [.int .i64 [y5]]⟩])), (4, some x0), (5, some m1)]))))))))) (.need u0 (.need i0 (.need w0 (.both (.all (Ls) fun (y5 : Ls) => (.imp (thPoP T { r := rtOf 28 q0, b := false, s := { l := l, n := wr .i64 z0 }, w := ⟨false, n, m, la, ep⟩, p := p, y := { f := false, par := 0 + Int.toNat p, q := List.getD (Pt.ns T) j1 0 } } y5) (.leaf (.normal, mkT 59 j0, [(0, some v0), (1, some m0), (2, some (.segs [⟨1, 1, [.val [.slice (.own 6 0 0 1) (List.length (Ls.l y5)) none]]⟩])), (3, some (.segs [⟨1, 1, [.int .i64 [Ls.n y5]]⟩])), (4, some x0), (5, some m1), (6, some (.segs [⟨List.length (Ls.l y5), 1, [.int .i64 (Ls.l y5)]⟩]))])))) (.all (Int) fun (y5 : Int) => (.imp (thPoN T { r := rtOf 28 q0, b := false, s := { l := l, n := wr .i64 z0 }, w := ⟨false, n, m, la, ep⟩, p := p, y := { f := false, par := 0 + Int.toNat p, q := List.getD (Pt.ns T) j1 0 } } y5) (.leaf (.normal, mkT 59 j0, [(0, some v0), (1, some m0), (2, some i1), (3, some (.segs [⟨1, 1, [.int .i64 [y5]]⟩])), (4, some x0), (5, some m1)]))))))))) (.need u0 (.need i0 (.need w0 (.both (.all (Ls) fun (y4 : Ls) => (.imp (thPoP T { r := rtOf 28 q0, b := false, s := { l := l, n := wr .i64 z0 }, w := ⟨false, n, m, la, ep⟩, p := p, y := { f := false, par := 0 + Int.toNat p, q := List.getD (Pt.ns T) j1 0 } } y4) (.leaf (.normal, mkT 59 j0, [(0, some v0), (1, some m0), (2, some (.segs [⟨1, 1, [.val [.slice (.own 6 0 0 1) (List.length (Ls.l y4)) none]]⟩])), (3, some (.segs [⟨1, 1, [.int .i64 [Ls.n y4]]⟩])), (4, some x0), (5, some m1), (6, some (.segs [⟨List.length (Ls.l y4), 1, [.int .i64 (Ls.l y4)]⟩]))])))) (.all (Int) fun (y4 : Int) => (.imp (thPoN T { r := rtOf 28 q0, b := false, s := { l := l, n := wr .i64 z0 }, w := ⟨false, n, m, la, ep⟩, p := p, y := { f := false, par := 0 + Int.toNat p, q := List.getD (Pt.ns T) j1 0 } } y4) (.leaf (.normal, mkT 59 j0, [(0, some v0), (1, some m0), (2, some i1), (3, some (.segs [⟨1, 1, [.int .i64 [y4]]⟩])), (4, some x0), (5, some m1)])))))))))))) (.leaf (.exit 2, mkT 59 [], [(0, some v0), (1, some m0), (2, some (.segs [q1])), (3, some (.segs [⟨1, 1, [.int .i64 [c]]⟩])), (4, some x0), (5, some m1), (6, some (.segs [z1]))])))) := by kernel_rfl
theorem thq_po1t (T : Pt) (q0 : Int) (m : Nat) (par q : Nat) (la ep p j c : Int) (l : List Int) : ((W (tabP T) noS noL 33 (false :: pPo) false (codeOf 33 (false :: pPo)) (mkT 59 (insPo (thY (.po q0)) m p ⟨false, par, q⟩ j))).full ⟨hp 0 (thC (.po q0) ⟨true, 0, m, la, ep⟩ false l c), 7, [], []⟩ leafS).take 6 (.x (.n (.n (.c (.x (.c (.c (.x (.c (.t (.c (.c (.c (.x (.n (.n (.c (.c (.c (.leaf [0, 1, 2, 3, 4, 5, 12] 15393397669921)))))) (.c (.leaf [0, 1, 2, 3, 4, 5, 6] 15393397669921)))))))) (cs 5 (.leaf [0, 1, 2, 3, 4, 5, 6] 15393397669921))))) (cs 9 (.leaf [0, 1, 2, 3, 4, 5, 6] 15393397669921)))))) (.leaf [0, 1, 2, 3, 4, 5, 6] 234881025)) =
(let m0 : Blk := (.segs [⟨1, 1, [.val [.fn 28 [.ptr (.own 0 0 0 0)]]]⟩])
let u0 : Blk := (.segs [⟨1, 1, [.int .i64 [q0]]⟩])
let x0 : Blk := (.segs [⟨List.length l, 1, [.int .i64 l]⟩])
let w0 : Blk := (.segs [⟨1, 1, [.int .i64 [wr .i64 (c + 1)]]⟩])
let v0 : Blk := (.segs [⟨1, 1, [.val [.slice (.own 6 0 0 1) (List.length l) none]]⟩])
let j0 : List (Nat × AVal) := [(0, .yld 5), (5, .int .i64 p), (25, .slice (.ro 1 0 0 0) m none), (26, .int .i64 (↑m : Int)), (27, .int .i64 p), (41, .slice (.ro 2 par 0 0) q none), (42, .int .i64 (↑q : Int)), (43, .int .i64 (wr .i64 (j + 1)))]
let i0 : Tree State := (.leaf (.normal, mkT 59 j0, [(0, some u0), (1, some m0), (2, some v0), (3, some w0), (4, some (planB true 0 m la ep)), (5, some (thL (.po q0))), (6, some x0)]))
(.br (decide (j < (↑q : Int))) (.need (decide (0 ≤ j) && decide (j < (↑q : Int))) (.need (decide (0 + Int.toNat j < List.length (Pt.po T par))) (.br (decide (wr .i64 (p + 1) = q0)) (.br (decide (0 < wr .i64 (p + 1))) (.need (decide (0 < wr .i64 (p + 1))) (.br (!decide (wr .i64 (j + 1) = 0)) (.need (decide ((List.length l + 1) * 8 ≤ 35184372088832)) (.need (decide (0 + List.length l ≤ List.length l)) (.leaf (.normal, mkT 59 j0, [(0, some u0), (1, some m0), (2, some (.segs [⟨1, 1, [.val [.slice (.own 6 0 0 1) (List.length l + 1) none]]⟩])), (3, some w0), (4, some (planB true 0 m la ep)), (5, some (thL (.po q0))), (6, some (.segs [⟨List.length l + 1, 1, [.int .i64 (List.take (List.length l) (List.drop 0 l) ++ List.take 1 (List.drop 0 [c]))]⟩]))])))) i0)) i0) i0))) (.leaf (.exit 4, mkT 59 [(0, .yld 5), (25, .slice (.ro 1 0 0 0) m none), (26, .int .i64 (↑m : Int)), (27, .int .i64 p)], [(0, some u0), (1, some m0), (2, some v0), (3, some (.segs [⟨1, 1, [.int .i64 [c]]⟩])), (4, some (planB true 0 m la ep)), (5, some (thL (.po q0))), (6, some x0)])))) := by kernel_rfl
theorem thq_pe1t (T : Pt) (q0 : Int) (m : Nat) (la ep p c : Int) (l : List Int) : ((W (tabP T) noS noL 33 (false :: pPo) false (codeOf 33 (false :: pPo)) (mkT 59 (insPo (thY (.po q0)) m p ⟨true, 0, 0⟩ 0))).full ⟨hp 0 (thC (.po q0) ⟨true, 0, m, la, ep⟩ false l c), 7, [], []⟩ leafS).take 6 (.c (.leaf [0, 1, 2, 3, 4, 5, 6] 234881025)) =
(.leaf (.exit 4, mkT 59 [(0, .yld 5), (25, .slice (.ro 1 0 0 0) m none), (26, .int .i64 (↑m : Int)), (27, .int .i64 p)], [(0, some (.segs [⟨1, 1, [.int .i64 [q0]]⟩])), (1, some (.segs [⟨1, 1, [.val [.fn 28 [.ptr (.own 0 0 0 0)]]]⟩])), (2, some (.segs [⟨1, 1, [.val [.slice (.own 6 0 0 1) (List.length l) none]]⟩])), (3, some (.segs [⟨1, 1, [.int .i64 [c]]⟩])), (4, some (planB true 0 m la ep)), (5, some (thL (.po q0))), (6, some (.segs [⟨List.length l, 1, [.int .i64 l]⟩]))])) := by kernel_rfl
theorem thq_st1t (T : Pt) (q0 : Int) (m : Nat) (la ep p c : Int) (l : List Int) : ((execT (W (tabP T) noS noL) (thTPo T 1) 6 400 33 (false :: pSt) (codeOf 33 (false :: pSt)) (mkT 59 (insSt (thY (.po q0)) m p)) ⟨hp 0 (thC (.po q0) ⟨true, 0, m, la, ep⟩ false l c), 7, [], []⟩ leafQ)).take 6 (.x (.n (.n (.x (.c (.x (.c (.c (.x (.c (.t (csQ 6 (.n (.n (.n (.b (.a (.i (.leaf [0, 1, 2, 3, 4, 5, 6] 234881025))) (.a (.i (.leaf [0, 1, 2, 3, 4, 5] 234881025)))))))))) (csQ 6 (.n (.n (.n (.b (.a (.i (.leaf [0, 1, 2, 3, 4, 5, 6] 234881025))) (.a (.i (.leaf [0, 1, 2, 3, 4, 5] 234881025))))))))))) (csQ 10 (.n (.n (.n (.b (.a (.i (.leaf [0, 1, 2, 3, 4, 5, 6] 234881025))) (.a (.i (.leaf [0, 1, 2, 3, 4, 5] 234881025)))))))))) (.c (.x (.c (.c (.x (.c (.t (csQ 6 (.n (.n (.n (.b (.a (.i (.leaf [0, 1, 2, 3, 4, 5, 6] 234881025))) (.a (.i (.leaf [0, 1, 2, 3, 4, 5] 234881025)))))))))) (csQ 6 (.n (.n (.n (.b (.a (.i (.leaf [0, 1, 2, 3, 4, 5, 6] 234881025))) (.a (.i (.leaf [0, 1, 2, 3, 4, 5] 234881025))))))))))) (csQ 10 (.n (.n (.n (.b (.a (.i (.leaf [0, 1, 2, 3, 4, 5, 6] 234881025))) (.a (.i (.leaf [0, 1, 2, 3, 4, 5] 234881025))))))))))))) (.leaf [0, 1, 2, 3, 4, 5, 6] 0)) =
(let z1 : Seg := ⟨List.length l, 1, [.int .i64 l]⟩
let i2 : Seg := ⟨1, 1, [.int .i64 [q0]]⟩
let q1 : Seg := ⟨1, 1, [.val [.slice (.own 6 0 0 1) (List.length l) none]]⟩
let w1 : Seg := ⟨1, 1, [.val [.fn 28 [.ptr (.own 0 0 0 0)]]]⟩
let i0 := (okBl [.segs [i2], .segs [w1], .segs [q1], .segs [⟨1, 1, [.int .i64 [wr .i64 (c + 1)]]⟩], planB true 0 m la ep, thL (.po q0), .segs [z1]] [.segs [i2], .segs [w1], .segs [⟨1, 1, [.val [.slice (.own (Rt.j (rtOf 28 q0)) 0 0 1) (List.length l) none]]⟩], .segs [⟨1, 1, [.int .i64 [wr .i64 (c + 1)]]⟩], planB true 0 m la ep, thL (.po q0), .segs [z1]])
let j0 : List (Nat × AVal) := [(0, .yld 5), (25, .slice (.ro 1 0 0 0) m none), (26, .int .i64 (↑m : Int)), (27, .int .i64 (wr .i64 (p + 1)))]
let m0 : Blk := (.segs [w1])
let j1 := (0 + Int.toNat p)
let u0 : Bool := (rf p && (rf m && true && (rf ((↑m : Int)) && (rf p && (rf j1 && true && (rf (List.getD (Pt.ns T) j1 0) && true) && (rf ((↑(List.getD (Pt.ns T) j1 0) : Int)) && true))))))
let v0 : Blk := (.segs [i2])
let w0 := (okT 100 false { l := l, n := wr .i64 (c + 1) } && okQ T p { f := false, par := 0 + Int.toNat p, q := List.getD (Pt.ns T) j1 0 })
let x0 := (planB true 0 m la ep)
let z0 := (List.getD [c] 0 0 + 1)
let i1 : Blk := (.segs [⟨1, 1, [.val [.nils]]⟩])
let m1 := (thL (.po q0))
let u1 : Bool := (rf p && (rf m && true && (rf ((↑m : Int)) && (rf p && true))))
let v1 := (okT 100 false { l := l, n := wr .i64 (c + 1) } && true)
let x1 : Bool := (decide (0 < wr .i64 (p + 1)))
(.br (decide (p < (↑m : Int))) (.need (decide (0 ≤ p) && decide (p < (↑m : Int))) (.need (decide (0 + Int.toNat p < List.length (Pt.st T))) (.br (List.getD (Pt.fs T) j1 true) (.br (decide (wr .i64 (p + 1) = q0)) (.br x1 (.need x1 (.need u1 (.need i0 (.need v1 (.both (.all (Ls) fun (y5 : Ls) => (.imp (thPoP T { r := rtOf 28 q0, b := false, s := { l := l, n := wr .i64 z0 }, w := ⟨true, 0, m, la, ep⟩, p := p, y := { f := true, par := 0, q := 0 } } y5) (.leaf (.normal, mkT 59 j0, [(0, some v0), (1, some m0), (2, some (.segs [⟨1, 1, [.val [.slice (.own 6 0 0 1) (List.length (Ls.l y5)) none]]⟩])), (3, some (.segs [⟨1, 1, [.int .i64 [Ls.n y5]]⟩])), (4, some x0), (5, some m1), (6, some (.segs [⟨List.length (Ls.l y5), 1, [.int .i64 (Ls.l y5)]⟩]))])))) (.all (Int) fun (y5 : Int) => (.imp (thPoN T { r := rtOf 28 q0, b := false, s := { l := l, n := wr .i64 z0 }, w := ⟨true, 0, m, la, ep⟩, p := p, y := { f := true, par := 0, q := 0 } } y5) (.leaf (.normal, mkT 59 j0, [(0, some v0), (1, some m0), (2, some i1), (3, some (.segs [⟨1, 1, [.int .i64 [y5]]⟩])), (4, some x0), (5, some m1)]))))))))) (.need u1 (.need i0 (.need v1 (.both (.all (Ls) fun (y5 : Ls) => (.imp (thPoP T { r := rtOf 28 q0, b := false, s := { l := l, n := wr .i64 z0 }, w := ⟨true, 0, m, la, ep⟩, p := p, y := { f := true, par := 0, q := 0 } } y5) (.leaf (.normal, mkT 59 j0, [(0, some v0), (1, some m0), (2, some (.segs [⟨1, 1, [.val [.slice (.own 6 0 0 1) (List.length (Ls.l y5)) none]]⟩])), (3, some (.segs [⟨1, 1, [.int .i64 [Ls.n y5]]⟩])), (4, some x0), (5, some m1), (6, some (.segs [⟨List.length (Ls.l y5), 1, [.int .i64 (Ls.l y5)]⟩]))])))) (.all (Int) fun (y5 : Int) => (.imp (thPoN T { r := rtOf 28 q0, b := false, s := { l := l, n := wr .i64 z0 }, w := ⟨true, 0, m, la, ep⟩, p := p, y := { f := true, par := 0, q := 0 } } y5) (.leaf (.normal, mkT 59 j0, [(0, some v0), (1, some m0), (2, some i1), (3, some (.segs [⟨1, 1, [.int .i64 [y5]]⟩])), (4, some x0), (5, some m1)]))))))))) (.need u1 (.need i0 (.need v1 (.both (.all (Ls) fun (y4 : Ls) => (.imp (thPoP T { r := rtOf 28 q0, b := false, s := { l := l, n := wr .i64 z0 }, w := ⟨true, 0, m, la, ep⟩, p := p, y := { f := true, par := 0, q := 0 } } y4) (.leaf (.normal, mkT 59 j0, [(0, some v0), (1, some m0), (2, some (.segs [⟨1, 1, [.val [.slice (.own 6 0 0 1) (List.length (Ls.l y4)) none]]⟩])), (3, some (.segs [⟨1, 1, [.int .i64 [Ls.n y4]]⟩])), (4, some x0), (5, some m1), (6, some (.segs [⟨List.length (Ls.l y4), 1, [.int .i64 (Ls.l y4)]⟩]))])))) (.all (Int) fun (y4 : Int) => (.imp (thPoN T { r := rtOf 28 q0, b := false, s := { l := l, n := wr .i64 z0 }, w := ⟨true, 0, m, la, ep⟩, p := p, y := { f := true, par := 0, q := 0 } } y4) (.leaf (.normal, mkT 59 j0, [(0, some v0), (1, some m0), (2, some i1), (3, some (.segs [⟨1, 1, [.int .i64 [y4]]⟩])), (4, some x0), (5, some m1)]))))))))) (.br (decide (wr .i64 (p + 1) = q0)) (.br x1 (.need x1 (.need u0 (.need i0 (.need w0 (.both (.all (Ls) fun (y5 : Ls) => (.imp (thPoP T { r := rtOf 28 q0, b := false, s := { l := l, n := wr .i64 z0 }, w := ⟨true, 0, m, la, ep⟩, p := p, y := { f := false, par := 0 + Int.toNat p, q := List.getD (Pt.ns T) j1 0 } } y5) (.leaf (.normal, mkT 59 j0, [(0, some v0), (1, some m0), (2, some (.segs [⟨1, 1, [.val [.slice (.own 6 0 0 1) (List.length (Ls.l y5)) none]]⟩])), (3, some (.segs [⟨1, 1, [.int .i64 [Ls.n y5]]⟩])), (4, some x0), (5, some m1), (6, some (.segs [⟨List.length (Ls.l y5), 1, [.int .i64 (Ls.l y5)]⟩]))])))) (.all (Int) fun (y5 : Int) => (.imp (thPoN T { r := rtOf 28 q0, b := false, s := { l := l, n := wr .i64 z0 }, w := ⟨true, 0, m, la, ep⟩, p := p, y := { f := false, par := 0 + Int.toNat p, q := List.getD (Pt.ns T) j1 0 } } y5) (.leaf (.normal, mkT 59 j0, [(0, some v0), (1, some m0), (2, some i1), (3, some (.segs [⟨1, 1, [.int .i64 [y5]]⟩])), (4, some x0), (5, some m1)]))))))))) (.need u0 (.need i0 (.need w0 (.both (.all (Ls) fun (y5 : Ls) => (.imp (thPoP T { r := rtOf 28 q0, b := false, s := { l := l, n := wr .i64 z0 }, w := ⟨true, 0, m, la, ep⟩, p := p, y := { f := false, par := 0 + Int.toNat p, q := List.getD (Pt.ns T) j1 0 } } y5) (.leaf (.normal, mkT 59 j0, [(0, some v0), (1, some m0), (2, some (.segs [⟨1, 1, [.val [.slice (.own 6 0 0 1) (List.length (Ls.l y5)) none]]⟩])), (3, some (.segs [⟨1, 1, [.int .i64 [Ls.n y5]]⟩])), (4, some x0), (5, some m1), (6, some (.segs [⟨List.length (Ls.l y5), 1, [.int .i64 (Ls.l y5)]⟩]))])))) (.all (Int) fun (y5 : Int) => (.imp (thPoN T { r := rtOf 28 q0, b := false, s := { l := l, n := wr .i64 z0 }, w := ⟨true, 0, m, la, ep⟩, p := p, y := { f := false, par := 0 + Int.toNat p, q := List.getD (Pt.ns T) j1 0 } } y5) (.leaf (.normal, mkT 59 j0, [(0, some v0), (1, some m0), (2, some i1), (3, some (.segs [⟨1, 1, [.int .i64 [y5]]⟩])), (4, some x0), (5, some m1)]))))))))) (.need u0 (.need i0 (.need w0 (.both (.all (Ls) fun (y4 : Ls) => (.imp (thPoP T { r := rtOf 28 q0, b := false, s := { l := l, n := wr .i64 z0 }, w := ⟨true, 0, m, la, ep⟩, p := p, y := { f := false, par := 0 + Int.toNat p, q := List.getD (Pt.ns T) j1 0 } } y4) (.leaf (.normal, mkT 59 j0, [(0, some v0), (1, some m0), (2, some (.segs [⟨1, 1, [.val [.slice (.own 6 0 0 1) (List.length (Ls.l y4)) none]]⟩])), (3, some (.segs [⟨1, 1, [.int .i64 [Ls.n y4]]⟩])), (4, some x0), (5, some m1), (6, some (.segs [⟨List.length (Ls.l y4), 1, [.int .i64 (Ls.l y4)]⟩]))])))) (.all (Int) fun (y4 : Int) => (.imp (thPoN T { r := rtOf 28 q0, b := false, s := { l := l, n := wr .i64 z0 }, w := ⟨true, 0, m, la, ep⟩, p := p, y := { f := false, par := 0 + Int.toNat p, q := List.getD (Pt.ns T) j1 0 } } y4) (.leaf (.normal, mkT 59 j0, [(0, some v0), (1, some m0), (2, some i1), (3, some (.segs [⟨1, 1, [.int .i64 [y4]]⟩])), (4, some x0), (5, some m1)])))))))))))) (.leaf (.exit 2, mkT 59 [], [(0, some v0), (1, some m0), (2, some (.segs [q1])), (3, some (.segs [⟨1, 1, [.int .i64 [c]]⟩])), (4, some x0), (5, some m1), (6, some (.segs [z1]))])))) := by kernel_rfl
theorem thq_pree (T : Pt) (q0 : Int) (m : Nat) (la ep : Int) : ((W (tabP T) noS noL 33 (false :: pPre) false (codeOf 33 (false :: pPre)) (mkT 59 (insPre (thY (.po q0)) (thP (.po q0)) ⟨true, 0, m, la, ep⟩ 0))).full ⟨hp 0 (thC (.po q0) ⟨true, 0, m, la, ep⟩ true [] 0), 6, [], []⟩ leafS).take 6 (.c (.leaf [0, 1, 2, 3, 4, 5] 3)) =
(.leaf (.exit 0, mkT 59 [(0, .yld 5), (1, .ptr (.own 4 0 0 0))], [(0, some (.segs [⟨1, 1, [.int .i64 [q0]]⟩])), (1, some (.segs [⟨1, 1, [.val [.fn 28 [.ptr (.own 0 0 0 0)]]]⟩])), (2, some (.segs [⟨1, 1, [.val [.nils]]⟩])), (3, some (.segs [⟨1, 1, [.int .i64 [0]]⟩])), (4, some (planB true 0 m la ep)), (5, some (thL (.po q0)))])) := by kernel_rfl
theorem thq_fnf (T : Pt) (q0 : Int) (n m : Nat) (la ep : Int) : ((callT Try.prog (tabP T) (W (tabP T) noS noL) (thT T 1) 6 33 [thY (.po q0), thP (.po q0)] ⟨hp 0 (thC (.po q0) ⟨false, n, m, la, ep⟩ true [] 0), 6, [], []⟩)).take 6 (.c (.n (.n (.n (.b (.a (.i (.c (.n (.n (.n (.b (.a (.i (.leaf [0, 1, 2, 3, 4, 5, 6] 0))) (.a (.i (.leaf [0, 1, 2, 3, 4, 5] 0)))))))))) (.a (.i (.c (.n (.n (.n (.b (.a (.i (.leaf [0, 1, 2, 3, 4, 5, 6] 0))) (.a (.i (.leaf [0, 1, 2, 3, 4, 5] 0))))))))))))))) =
(let i0 : Seg := ⟨1, 1, [.val [.fn 28 [.ptr (.own 0 0 0 0)]]]⟩
let j0 : Seg := ⟨1, 1, [.int .i64 [q0]]⟩
let m0 : Seg := ⟨1, 1, [.val [.nils]]⟩
let u0 := (planB false n m la ep)
(.need (rf n && true && (rf ((↑n : Int)) && true)) (.need (okBl [.segs [j0], .segs [i0], .segs [m0], .segs [⟨1, 1, [.int .i64 [0]]⟩], planB false n m la ep, thL (.po q0)] [.segs [j0], .segs [i0], .segs [m0], .segs [⟨1, 1, [.int .i64 [0]]⟩], planB false n m la ep, thL (.po q0)]) (.need (okW T ⟨false, n, m, la, ep⟩) (.both (.all (Ls) fun (y1 : Ls) => (let v0 : Seg := ⟨List.length (Ls.l y1), 1, [.int .i64 (Ls.l y1)]⟩
(.imp (thPrP T (rtOf 28 q0) y1) (.need (rf m && true && (rf ((↑m : Int)) && true)) (.need (okBl [.segs [j0], .segs [i0], .segs [⟨1, 1, [.val [.slice (.own 6 0 0 1) (List.length (Ls.l y1)) none]]⟩], .segs [⟨1, 1, [.int .i64 [Ls.n y1]]⟩], planB false n m la ep, thL (.po q0), .segs [v0]] [.segs [j0], .segs [i0], .segs [⟨1, 1, [.val [.slice (.own (Rt.j (rtOf 28 q0)) 0 0 1) (List.length (Ls.l y1)) none]]⟩], .segs [⟨1, 1, [.int .i64 [Ls.n y1]]⟩], planB false n m la ep, thL (.po q0), .segs [v0]]) (.need (okT 10 false y1 && okW T ⟨false, n, m, la, ep⟩) (.both (.all (Ls) fun (y3 : Ls) => (.imp (thStP T { r := rtOf 28 q0, b := false, s := y1, w := ⟨false, n, m, la, ep⟩, p := 0, y := { f := true, par := 0, q := 0 } } y3) (.leaf (.ret, mkT 1 [], [(0, some (.segs [j0])), (1, some (.segs [i0])), (2, some (.segs [⟨1, 1, [.val [.slice (.own 6 0 0 1) (List.length (Ls.l y3)) none]]⟩])), (3, some (.segs [⟨1, 1, [.int .i64 [Ls.n y3]]⟩])), (4, some u0), (5, some (thL (.po q0))), (6, some (.segs [⟨List.length (Ls.l y3), 1, [.int .i64 (Ls.l y3)]⟩]))])))) (.all (Int) fun (y3 : Int) => (.imp (thStN T { r := rtOf 28 q0, b := false, s := y1, w := ⟨false, n, m, la, ep⟩, p := 0, y := { f := true, par := 0, q := 0 } } y3) (.leaf (.ret, mkT 1 [], [(0, some (.segs [j0])), (1, some (.segs [i0])), (2, some (.segs [m0])), (3, some (.segs [⟨1, 1, [.int .i64 [y3]]⟩])), (4, some u0), (5, some (thL (.po q0)))]))))))))))) (.all (Int) fun (y1 : Int) => (.imp (thPrN T (rtOf 28 q0) y1) (.need (rf m && true && (rf ((↑m : Int)) && true)) (.need (okBl [.segs [j0], .segs [i0], .segs [m0], .segs [⟨1, 1, [.int .i64 [y1]]⟩], planB false n m la ep, thL (.po q0)] [.segs [j0], .segs [i0], .segs [m0], .segs [⟨1, 1, [.int .i64 [y1]]⟩], planB false n m la ep, thL (.po q0)]) (.need (okT 10 true { l := [], n := y1 } && okW T ⟨false, n, m, la, ep⟩) (.both (.all (Ls) fun (y3 : Ls) => (.imp (thStP T { r := rtOf 28 q0, b := true, s := { l := [], n := y1 }, w := ⟨false, n, m, la, ep⟩, p := 0, y := { f := true, par := 0, q := 0 } } y3) (.leaf (.ret, mkT 1 [], [(0, some (.segs [j0])), (1, some (.segs [i0])), (2, some (.segs [⟨1, 1, [.val [.slice (.own 6 0 0 1) (List.length (Ls.l y3)) none]]⟩])), (3, some (.segs [⟨1, 1, [.int .i64 [Ls.n y3]]⟩])), (4, some u0), (5, some (thL (.po q0))), (6, some (.segs [⟨List.length (Ls.l y3), 1, [.int .i64 (Ls.l y3)]⟩]))])))) (.all (Int) fun (y3 : Int) => (.imp (thStN T { r := rtOf 28 q0, b := true, s := { l := [], n := y1 }, w := ⟨false, n, m, la, ep⟩, p := 0, y := { f := true, par := 0, q := 0 } } y3) (.leaf (.ret, mkT 1 [], [(0, some (.segs [j0])), (1, some (.segs [i0])), (2, some (.segs [m0])), (3, some (.segs [⟨1, 1, [.int .i64 [y3]]⟩])), (4, some u0), (5, some (thL (.po q0)))]))))))))))))))) := by kernel_rfl
theorem thoseqf (T : Pt) (q0 : Int) (n m : Nat) (la ep : Int) : ((callT Try.prog (tabP T) (W (tabP T) noS noL) (thTR T 1) 1 24 [Pw.v ⟨false, n, m, la, ep⟩, Rt.fn (.po q0)] ⟨hp 0 (Rt.num (.po q0)), 1, [], []⟩)).take 1 (.c (.n (.n (.b (.a (.i (.leaf [0, 2] 1))) (.a (.i (.leaf [0] 1))))))) =
(.need (rf [q0] && true && true && (rf n && true && true && true && (rf m && true && true && true && (rf [la] && true && (rf [ep] && true && true))) && true)) (.need (okW T ⟨false, n, m, la, ep⟩) (.both (.all (Ls) fun (y1 : Ls) => (.imp (thAP T (rtOf 28 q0) y1) (.leaf (.ret, mkT 1 [(0, .slice (.own 1 0 0 1) (List.length (Ls.l y1)) none)], [(0, some (.segs [⟨1, 1, [.int .i64 [q0]]⟩])), (1, some (.segs [⟨List.length (Ls.l y1), 1, [.int .i64 (Ls.l y1)]⟩]))])))) (.all (Int) fun (y1 : Int) => (.imp (thAN T (rtOf 28 q0) y1) (.leaf (.ret, mkT 1 [(0, .nils)], [(0, some (.segs [⟨1, 1, [.int .i64 [q0]]⟩]))]))))))) := by kernel_rfl
theorem thq_fnt (T : Pt) (q0 : Int) (m : Nat) (la ep : Int) : ((callT Try.prog (tabP T) (W (tabP T) noS noL) (thT T 1) 6 33 [thY (.po q0), thP (.po q0)] ⟨hp 0 (thC (.po q0) ⟨true, 0, m, la, ep⟩ true [] 0), 6, [], []⟩)).take 6 (.c (.c (.n (.n (.b (.a (.i (.c (.n (.n (.n (.b (.a (.i (.leaf [0, 1, 2, 3, 4, 5, 6] 0))) (.a (.i (.leaf [0, 1, 2, 3, 4, 5] 0)))))))))) (.a (.i (.c (.n (.n (.n (.b (.a (.i (.leaf [0, 1, 2, 3, 4, 5, 6] 0))) (.a (.i (.leaf [0, 1, 2, 3, 4, 5] 0))))))))))))))) =
(let i0 : Seg := ⟨1, 1, [.val [.fn 28 [.ptr (.own 0 0 0 0)]]]⟩
let j0 : Seg := ⟨1, 1, [.int .i64 [q0]]⟩
let m0 : Seg := ⟨1, 1, [.val [.nils]]⟩
let u0 := (planB true 0 m la ep)
(.need (okBl [.segs [j0], .segs [i0], .segs [m0], .segs [⟨1, 1, [.int .i64 [0]]⟩], planB true 0 m la ep, thL (.po q0)] [.segs [j0], .segs [i0], .segs [m0], .segs [⟨1, 1, [.int .i64 [0]]⟩], planB true 0 m la ep, thL (.po q0)]) (.need (okW T ⟨true, 0, m, la, ep⟩) (.both (.all (Ls) fun (y1 : Ls) => (let v0 : Seg := ⟨List.length (Ls.l y1), 1, [.int .i64 (Ls.l y1)]⟩
(.imp (thPrP T (rtOf 28 q0) y1) (.need (rf m && true && (rf ((↑m : Int)) && true)) (.need (okBl [.segs [j0], .segs [i0], .segs [⟨1, 1, [.val [.slice (.own 6 0 0 1) (List.length (Ls.l y1)) none]]⟩], .segs [⟨1, 1, [.int .i64 [Ls.n y1]]⟩], planB true 0 m la ep, thL (.po q0), .segs [v0]] [.segs [j0], .segs [i0], .segs [⟨1, 1, [.val [.slice (.own (Rt.j (rtOf 28 q0)) 0 0 1) (List.length (Ls.l y1)) none]]⟩], .segs [⟨1, 1, [.int .i64 [Ls.n y1]]⟩], planB true 0 m la ep, thL (.po q0), .segs [v0]]) (.need (okT 10 false y1 && okW T ⟨true, 0, m, la, ep⟩) (.both (.all (Ls) fun (y3 : Ls) => (.imp (thStP T { r := rtOf 28 q0, b := false, s := y1, w := ⟨true, 0, m, la, ep⟩, p := 0, y := { f := true, par := 0, q := 0 } } y3) (.leaf (.ret, mkT 1 [], [(0, some (.segs [j0])), (1, some (.segs [i0])), (2, some (.segs [⟨1, 1, [.val [.slice (.own 6 0 0 1) (List.length (Ls.l y3)) none]]⟩])), (3, some (.segs [⟨1, 1, [.int .i64 [Ls.n y3]]⟩])), (4, some u0), (5, some (thL (.po q0))), (6, some (.segs [⟨List.length (Ls.l y3), 1, [.int .i64 (Ls.l y3)]⟩]))])))) (.all (Int) fun (y3 : Int) => (.imp (thStN T { r := rtOf 28 q0, b := false, s := y1, w := ⟨true, 0, m, la, ep⟩, p := 0, y := { f := true, par := 0, q := 0 } } y3) (.leaf (.ret, mkT 1 [], [(0, some (.segs [j0])), (1, some (.segs [i0])), (2, some (.segs [m0])), (3, some (.segs [⟨1, 1, [.int .i64 [y3]]⟩])), (4, some u0), (5, some (thL (.po q0)))]))))))))))) (.all (Int) fun (y1 : Int) => (.imp (thPrN T (rtOf 28 q0) y1) (.need (rf m && true && (rf ((↑m : Int)) && true)) (.need (okBl [.segs [j0], .segs [i0], .segs [m0], .segs [⟨1, 1, [.int .i64 [y1]]⟩], planB true 0 m la ep, thL (.po q0)] [.segs [j0], .segs [i0], .segs [m0], .segs [⟨1, 1, [.int .i64 [y1]]⟩], planB true 0 m la ep, thL (.po q0)]) (.need (okT 10 true { l := [], n := y1 } && okW T ⟨true, 0, m, la, ep⟩) (.both (.all (Ls) fun (y3 : Ls) => (.imp (thStP T { r := rtOf 28 q0, b := true, s := { l := [], n := y1 }, w := ⟨true, 0, m, la, ep⟩, p := 0, y := { f := true, par := 0, q := 0 } } y3) (.leaf (.ret, mkT 1 [], [(0, some (.segs [j0])), (1, some (.segs [i0])), (2, some (.segs [⟨1, 1, [.val [.slice (.own 6 0 0 1) (List.length (Ls.l y3)) none]]⟩])), (3, some (.segs [⟨1, 1, [.int .i64 [Ls.n y3]]⟩])), (4, some u0), (5, some (thL (.po q0))), (6, some (.segs [⟨List.length (Ls.l y3), 1, [.int .i64 (Ls.l y3)]⟩]))])))) (.all (Int) fun (y3 : Int) => (.imp (thStN T { r := rtOf 28 q0, b := true, s := { l := [], n := y1 }, w := ⟨true, 0, m, la, ep⟩, p := 0, y := { f := true, par := 0, q := 0 } } y3) (.leaf (.ret, mkT 1 [], [(0, some (.segs [j0])), (1, some (.segs [i0])), (2, some (.segs [m0])), (3, some (.segs [⟨1, 1, [.int .i64 [y3]]⟩])), (4, some u0), (5, some (thL (.po q0)))])))))))))))))) := by kernel_rfl
theorem thoseqt (T : Pt) (q0 : Int) (m : Nat) (la ep : Int) : ((callT Try.prog (tabP T) (W (tabP T) noS noL) (thTR T 1) 1 24 [Pw.v ⟨true, 0, m, la, ep⟩, Rt.fn (.po q0)] ⟨hp 0 (Rt.num (.po q0)), 1, [], []⟩)).take 1 (.c (.n (.n (.b (.a (.i (.leaf [0, 2] 1))) (.a (.i (.leaf [0] 1))))))) =
(.need (rf [q0] && true && true && (rf m && true && true && true && (rf [la] && true && (rf [ep] && true && true)) && true)) (.need (okW T ⟨true, 0, m, la, ep⟩) (.both (.all (Ls) fun (y1 : Ls) => (.imp (thAP T (rtOf 28 q0) y1) (.leaf (.ret, mkT 1 [(0, .slice (.own 1 0 0 1) (List.length (Ls.l y1)) none)], [(0, some (.segs [⟨1, 1, [.int .i64 [q0]]⟩])), (1, some (.segs [⟨List.length (Ls.l y1), 1, [.int .i64 (Ls.l y1)]⟩]))])))) (.all (Int) fun (y1 : Int) => (.imp (thAN T (rtOf 28 q0) y1) (.leaf (.ret, mkT 1 [(0, .nils)], [(0, some (.segs [⟨1, 1, [.int .i64 [q0]]⟩]))]))))))) := by kernel_rfl
end Go.Proofs.Ytompijagcjjamaa

namespace Go.Proofs.Ytompijagcjjamaa
open Ab
def okB (m : Nat) (s : Ls) : Prop := s.l.length ≤ m ∧ 0 ≤ s.n ∧ s.n ≤ m
theorem gi (l : List Int) (c : Int) : List.take l.length (List.drop 0 l) ++ List.take 1 (List.drop 0 [c]) = l ++ [c] := by simp
theorem gi1 (l : List Int) (c : Int) : l.length + 1 = (l ++ [c]).length := by simp
section
variable {ra : Nat → Nat → Nat × Nat} {base : Nat}
theorem thp_pre {T : Pt} (h : T.Ok) {w : Pw} (hw : okW T w = true) {i : Nat} {a : Nd} {s : Ls} (ha : (itemsAt 0 0 T.pre)[i]? = some a) (hs : okB 200 s) :
    Takes Try.prog (tabP T) ra base 5 (codeOf 33 (false :: pPre)) (mkT 59 (insPre (thY .pr) (thP .pr) w (i : Int))) (hp 0 (thH .pr w s)) fun y => PostR (thH .pr w) .normal (insPre (thY .pr) (thP .pr) w ((i + 1 : Nat) : Int)) (thStep .pr s a) y := by
  obtain ⟨hi, rfl⟩ := itemsAt_get 0 T.pre 0 i a ha
  obtain ⟨he, hn, hm⟩ := okW_iff.1 hw
  obtain ⟨e, n, m, la, ep⟩ := w
  obtain ⟨l, c⟩ := s
  obtain ⟨hl, hc0, hc1⟩ := hs
  simp only at he hn hm hl hc0 hc1
  have he' : e = false := by
    cases e with
    | false => rfl
    | true => have := h.e he.symm; rw [this] at hi; simp at hi
  subst he'
  have hp4 := h.pre
  have hwr : wr .i64 ((i : Int) + 1) = ((i + 1 : Nat) : Int) := by rw [wr_in ⟨by omega, by omega⟩]; omega
  have hwc : wr .i64 (c + 1) = c + 1 := wr_in ⟨by omega, by omega⟩
  have hin : (i : Int) < (n : Int) := by omega
  have hl' : (l ++ [c]).length ≤ 201 := by simp only [List.length_append, List.length_singleton]; omega
  have hst : thStep .pr ⟨l, c⟩ ⟨0, ((0 + i : Nat) : Int), T.pre.getD i z4⟩ = .on ⟨l ++ [c], c + 1⟩ := by
    have : Rt.ok .pr ⟨0, ((0 + i : Nat) : Int), T.pre.getD i z4⟩ = true := by simp [Rt.ok]
    simp only [thStep, this]
  rw [hst]
  cases l with
  | nil =>
    refine takes_of_tree (tabP_plain T) (wP T) (.inr (by kernel_rfl)) (hp_below _) (thp_pre0 T n m la ep i c) ?_
    simp only [Tree.holds, rf_eq, hin, hi, hwr, hwc, decide_true, decide_false, Bool.not_false, Bool.not_true, Int.toNat_natCast, Nat.zero_add, Bool.and_self, Bool.and_true, Bool.true_and, true_and, decide_eq_true_eq, decide_eq_false_iff_not, true_implies, Bool.true_eq_false, Bool.false_eq_true, false_implies, and_true]
    repeat' (first | apply And.intro | exact rfl | exact Nat.le_refl _ | omega | exact absurd hz (by assumption) | exact absurd (by assumption) hz | intro _)
  | cons b l =>
    refine takes_of_tree (tabP_plain T) (wP T) (.inr (by kernel_rfl)) (hp_below _) (thp_pre1 T n m la ep i c (b :: l)) ?_
    simp only [Tree.holds, rf_eq, hin, hi, hwr, hwc, gi, gi1 _ c, decide_true, decide_false, Bool.not_false, Bool.not_true, Int.toNat_natCast, Nat.zero_add, Bool.and_self, Bool.and_true, Bool.true_and, true_and, decide_eq_true_eq, decide_eq_false_iff_not, true_implies, Bool.true_eq_false, Bool.false_eq_true, false_implies, and_true]
    repeat' (first | apply And.intro | exact rfl | exact Nat.le_refl _ | omega | exact absurd hz (by assumption) | exact absurd (by assumption) hz | intro _)
theorem thp_pre_end {T : Pt} (h : T.Ok) {w : Pw} (hw : okW T w = true) {s : Ls} (hs : T.e = true → s = ⟨[], 0⟩) :
    Takes Try.prog (tabP T) ra base 5 (codeOf 33 (false :: pPre)) (mkT 59 (insPre (thY .pr) (thP .pr) w (T.pre.length : Int))) (hp 0 (thH .pr w s)) fun y => y = (.exit 0, mkT 59 [(0, thY .pr), (1, thP .pr)], hp 0 (thH .pr w s)) := by
  obtain ⟨he, hn, hm⟩ := okW_iff.1 hw
  obtain ⟨e, n, m, la, ep⟩ := w
  simp only at he hn hm
  cases e with
  | true =>
    have hs := hs he.symm
    subst hs
    have hn0 : n = 0 := by rw [hn, h.e he.symm]; rfl
    have hp0 : T.pre.length = 0 := by rw [h.e he.symm]; rfl
    subst hn0
    rw [hp0]
    refine takes_of_tree (tabP_plain T) (wP T) (.inr (by kernel_rfl)) (hp_below _) (thp_pree T m la ep) ?_
    simp only [Tree.holds]
    rfl
  | false =>
    have hn' : ¬ ((T.pre.length : Int) < (n : Int)) := by omega
    obtain ⟨l, c⟩ := s
    cases l with
    | nil =>
      refine takes_of_tree (tabP_plain T) (wP T) (.inr (by kernel_rfl)) (hp_below _) (thp_pre0 T n m la ep (T.pre.length : Int) c) ?_
      simp only [Tree.holds, rf_eq, hn', decide_false, Bool.false_eq_true, false_implies, true_and, true_implies]
      rfl
    | cons b l =>
      refine takes_of_tree (tabP_plain T) (wP T) (.inr (by kernel_rfl)) (hp_below _) (thp_pre1 T n m la ep (T.pre.length : Int) c (b :: l)) ?_
      simp only [Tree.holds, rf_eq, hn', decide_false, Bool.false_eq_true, false_implies, true_and, true_implies]
      rfl
theorem thp_po {T : Pt} (h : T.Ok) {w : Pw} {p : Int} {y : Pq} (hq : okQ T p y = true) {i : Nat} {a : Nd} {s : Ls} (ha : (itemsAt (p + 1) 1 (poL T y))[i]? = some a) (hs : okB 200 s) :
    Takes Try.prog (tabP T) ra base 5 (codeOf 33 (false :: pPo)) (mkT 59 (insPo (thY .pr) w.m p y (i : Int))) (hp 0 (thH .pr w s)) fun v => PostR (thH .pr w) .normal (insPo (thY .pr) w.m p y ((i + 1 : Nat) : Int)) (thStep .pr s a) v := by
  obtain ⟨hi, rfl⟩ := itemsAt_get _ _ _ i a ha
  obtain ⟨hq1, hq2⟩ := okQ_iff.1 hq
  obtain ⟨f, par, q⟩ := y
  obtain ⟨l, c⟩ := s
  obtain ⟨hl, hc0, hc1⟩ := hs
  simp only at hl hc0 hc1
  cases f with
  | true => exact absurd hi (Nat.not_lt_zero _)
  | false =>
    obtain ⟨hq2, hq3⟩ := hq2 rfl
    simp only at hq2 hq3
    subst hq2
    simp only [poL] at hi hq1
    have hp4 := h.po par
    have hwr : wr .i64 ((i : Int) + 1) = ((i + 1 : Nat) : Int) := by rw [wr_in ⟨by omega, by omega⟩]; omega
    have hwc : wr .i64 (c + 1) = c + 1 := wr_in ⟨by omega, by omega⟩
    have hwp : wr .i64 ((par : Int) + 1) = (par : Int) + 1 := wr_in ⟨by omega, by omega⟩
    have h0 : (0 : Int) < (par : Int) + 1 := by omega
    have h1 : ¬ ((par : Int) + 1 = 0) := by omega
    have h2 : ¬ (((i + 1 : Nat) : Int) = 0) := by omega
    have h3 : ¬ (((1 + i : Nat) : Int) = 0) := by omega
    have hin : (i : Int) < (q : Int) := by omega
    have hl' : (l ++ [c]).length ≤ 201 := by simp only [List.length_append, List.length_singleton]; omega
    obtain ⟨e, n, m, la, ep⟩ := w
    have hst : thStep .pr ⟨l, c⟩ ⟨(par : Int) + 1, ((1 + i : Nat) : Int), (poL T ⟨false, par, q⟩).getD i z4⟩ = .on ⟨l, c + 1⟩ := by
      have : Rt.ok .pr ⟨(par : Int) + 1, ((1 + i : Nat) : Int), (poL T ⟨false, par, q⟩).getD i z4⟩ = false := by simp only [Rt.ok, h0, h1, h3, decide_true, decide_false, Bool.and_true, Bool.and_false, Bool.false_and, Bool.true_and, Bool.not_false, Bool.not_true]
      simp only [thStep, this]
    rw [hst]
    cases e with
    | false =>
      cases l with
      | nil =>
        refine takes_of_tree (tabP_plain T) (wP T) (.inr (by kernel_rfl)) (hp_below _) (thp_po0f T n m par q la ep par i c) ?_
        simp only [Tree.holds, rf_eq, hin, hi, hwr, hwc, hwp, h0, h1, h2, decide_true, decide_false, Bool.not_false, Bool.not_true, Int.toNat_natCast, Nat.zero_add, Bool.and_self, Bool.and_true, Bool.true_and, true_and, decide_eq_true_eq, decide_eq_false_iff_not, true_implies, Bool.true_eq_false, Bool.false_eq_true, false_implies, and_true]
        repeat' (first | apply And.intro | exact rfl | exact Nat.le_refl _ | omega | exact absurd hz (by assumption) | exact absurd (by assumption) hz | intro _)
      | cons b l =>
        refine takes_of_tree (tabP_plain T) (wP T) (.inr (by kernel_rfl)) (hp_below _) (thp_po1f T n m par q la ep par i c (b :: l)) ?_
        simp only [Tree.holds, rf_eq, hin, hi, hwr, hwc, hwp, h0, h1, h2, gi, gi1 _ c, decide_true, decide_false, Bool.not_false, Bool.not_true, Int.toNat_natCast, Nat.zero_add, Bool.and_self, Bool.and_true, Bool.true_and, true_and, decide_eq_true_eq, decide_eq_false_iff_not, true_implies, Bool.true_eq_false, Bool.false_eq_true, false_implies, and_true]
        repeat' (first | apply And.intro | exact rfl | exact Nat.le_refl _ | omega | exact absurd hz (by assumption) | exact absurd (by assumption) hz | intro _)
    | true =>
      cases l with
      | nil =>
        refine takes_of_tree (tabP_plain T) (wP T) (.inr (by kernel_rfl)) (hp_below _) (thp_po0t T m par q la ep par i c) ?_
        simp only [Tree.holds, rf_eq, hin, hi, hwr, hwc, hwp, h0, h1, h2, decide_true, decide_false, Bool.not_false, Bool.not_true, Int.toNat_natCast, Nat.zero_add, Bool.and_self, Bool.and_true, Bool.true_and, true_and, decide_eq_true_eq, decide_eq_false_iff_not, true_implies, Bool.true_eq_false, Bool.false_eq_true, false_implies, and_true]
        repeat' (first | apply And.intro | exact rfl | exact Nat.le_refl _ | omega | exact absurd hz (by assumption) | exact absurd (by assumption) hz | intro _)
      | cons b l =>
        refine takes_of_tree (tabP_plain T) (wP T) (.inr (by kernel_rfl)) (hp_below _) (thp_po1t T m par q la ep par i c (b :: l)) ?_
        simp only [Tree.holds, rf_eq, hin, hi, hwr, hwc, hwp, h0, h1, h2, gi, gi1 _ c, decide_true, decide_false, Bool.not_false, Bool.not_true, Int.toNat_natCast, Nat.zero_add, Bool.and_self, Bool.and_true, Bool.true_and, true_and, decide_eq_true_eq, decide_eq_false_iff_not, true_implies, Bool.true_eq_false, Bool.false_eq_true, false_implies, and_true]
        repeat' (first | apply And.intro | exact rfl | exact Nat.le_refl _ | omega | exact absurd hz (by assumption) | exact absurd (by assumption) hz | intro _)
theorem thp_po_end {T : Pt} {w : Pw} {p : Int} {y : Pq} (hq : okQ T p y = true) {s : Ls} :
    Takes Try.prog (tabP T) ra base 5 (codeOf 33 (false :: pPo)) (mkT 59 (insPo (thY .pr) w.m p y ((poL T y).length : Int))) (hp 0 (thH .pr w s)) fun v => v = (.exit 4, mkT 59 (outPo (thY .pr) w.m p), hp 0 (thH .pr w s)) := by
  obtain ⟨hq1, _⟩ := okQ_iff.1 hq
  obtain ⟨f, par, q⟩ := y
  obtain ⟨e, n, m, la, ep⟩ := w
  obtain ⟨l, c⟩ := s
  simp only at hq1
  have hn : ¬ (((poL T ⟨f, par, q⟩).length : Int) < (q : Int)) := by
    rw [hq1]; exact Int.lt_irrefl _
  cases f with
  | true =>
    have hq0 : q = 0 := hq1
    subst hq0
    cases e with
    | false =>
      cases l with
      | nil =>
        refine takes_of_tree (tabP_plain T) (wP T) (.inr (by kernel_rfl)) (hp_below _) (thp_pe0f T n m la ep p c) ?_
        simp only [Tree.holds]
        rfl
      | cons b l =>
        refine takes_of_tree (tabP_plain T) (wP T) (.inr (by kernel_rfl)) (hp_below _) (thp_pe1f T n m la ep p c (b :: l)) ?_
        simp only [Tree.holds]
        rfl
    | true =>
      cases l with
      | nil =>
        refine takes_of_tree (tabP_plain T) (wP T) (.inr (by kernel_rfl)) (hp_below _) (thp_pe0t T m la ep p c) ?_
        simp only [Tree.holds]
        rfl
      | cons b l =>
        refine takes_of_tree (tabP_plain T) (wP T) (.inr (by kernel_rfl)) (hp_below _) (thp_pe1t T m la ep p c (b :: l)) ?_
        simp only [Tree.holds]
        rfl
  | false =>
    cases e with
    | false =>
      cases l with
      | nil =>
        refine takes_of_tree (tabP_plain T) (wP T) (.inr (by kernel_rfl)) (hp_below _) (thp_po0f T n m par q la ep p ((poL T ⟨false, par, q⟩).length : Int) c) ?_
        simp only [Tree.holds, rf_eq, hn, decide_false, Bool.false_eq_true, false_implies, true_and, true_implies]
        rfl
      | cons b l =>
        refine takes_of_tree (tabP_plain T) (wP T) (.inr (by kernel_rfl)) (hp_below _) (thp_po1f T n m par q la ep p ((poL T ⟨false, par, q⟩).length : Int) c (b :: l)) ?_
        simp only [Tree.holds, rf_eq, hn, decide_false, Bool.false_eq_true, false_implies, true_and, true_implies]
        rfl
    | true =>
      cases l with
      | nil =>
        refine takes_of_tree (tabP_plain T) (wP T) (.inr (by kernel_rfl)) (hp_below _) (thp_po0t T m par q la ep p ((poL T ⟨false, par, q⟩).length : Int) c) ?_
        simp only [Tree.holds, rf_eq, hn, decide_false, Bool.false_eq_true, false_implies, true_and, true_implies]
        rfl
      | cons b l =>
        refine takes_of_tree (tabP_plain T) (wP T) (.inr (by kernel_rfl)) (hp_below _) (thp_po1t T m par q la ep p ((poL T ⟨false, par, q⟩).length : Int) c (b :: l)) ?_
        simp only [Tree.holds, rf_eq, hn, decide_false, Bool.false_eq_true, false_implies, true_and, true_implies]
        rfl
theorem tho_pre {T : Pt} (h : T.Ok) {w : Pw} (hw : okW T w = true) (z : Int) {i : Nat} {a : Nd} {s : Ls} (ha : (itemsAt 0 0 T.pre)[i]? = some a) (hs : okB 200 s) :
    Takes Try.prog (tabP T) ra base 6 (codeOf 33 (false :: pPre)) (mkT 59 (insPre (thY (.st z)) (thP (.st z)) w (i : Int))) (hp 0 (thH (.st z) w s)) fun y => PostR (thH (.st z) w) .normal (insPre (thY (.st z)) (thP (.st z)) w ((i + 1 : Nat) : Int)) (thStep (.st z) s a) y := by
  obtain ⟨hi, rfl⟩ := itemsAt_get 0 T.pre 0 i a ha
  obtain ⟨he, hn, hm⟩ := okW_iff.1 hw
  obtain ⟨e, n, m, la, ep⟩ := w
  obtain ⟨l, c⟩ := s
  obtain ⟨hl, hc0, hc1⟩ := hs
  simp only at he hn hm hl hc0 hc1
  have he' : e = false := by
    cases e with
    | false => rfl
    | true => have := h.e he.symm; rw [this] at hi; simp at hi
  subst he'
  have hp4 := h.pre
  have hwr : wr .i64 ((i : Int) + 1) = ((i + 1 : Nat) : Int) := by rw [wr_in ⟨by omega, by omega⟩]; omega
  have hwc : wr .i64 (c + 1) = c + 1 := wr_in ⟨by omega, by omega⟩
  have hin : (i : Int) < (n : Int) := by omega
  have hl' : (l ++ [c]).length ≤ 201 := by simp only [List.length_append, List.length_singleton]; omega
  have hst : thStep (.st z) ⟨l, c⟩ ⟨0, ((0 + i : Nat) : Int), T.pre.getD i z4⟩ = .on ⟨l, c + 1⟩ := by
    have : Rt.ok (.st z) ⟨0, ((0 + i : Nat) : Int), T.pre.getD i z4⟩ = false := by simp [Rt.ok]
    simp only [thStep, this]
  rw [hst]
  cases l with
  | nil =>
    refine takes_of_tree (tabP_plain T) (wP T) (.inr (by kernel_rfl)) (hp_below _) (tho_pre0 T z n m la ep i c) ?_
    simp only [Tree.holds, rf_eq, hin, hi, hwr, hwc, decide_true, decide_false, Bool.not_false, Bool.not_true, Int.toNat_natCast, Nat.zero_add, Bool.and_self, Bool.and_true, Bool.true_and, true_and, decide_eq_true_eq, decide_eq_false_iff_not, true_implies, Bool.true_eq_false, Bool.false_eq_true, false_implies, and_true]
    repeat' (first | apply And.intro | exact rfl | exact Nat.le_refl _ | omega | exact absurd hz (by assumption) | exact absurd (by assumption) hz | intro _)
  | cons b l =>
    refine takes_of_tree (tabP_plain T) (wP T) (.inr (by kernel_rfl)) (hp_below _) (tho_pre1 T z n m la ep i c (b :: l)) ?_
    simp only [Tree.holds, rf_eq, hin, hi, hwr, hwc, gi, gi1 _ c, decide_true, decide_false, Bool.not_false, Bool.not_true, Int.toNat_natCast, Nat.zero_add, Bool.and_self, Bool.and_true, Bool.true_and, true_and, decide_eq_true_eq, decide_eq_false_iff_not, true_implies, Bool.true_eq_false, Bool.false_eq_true, false_implies, and_true]
    repeat' (first | apply And.intro | exact rfl | exact Nat.le_refl _ | omega | exact absurd hz (by assumption) | exact absurd (by assumption) hz | intro _)
theorem tho_pre_end {T : Pt} (h : T.Ok) {w : Pw} (hw : okW T w = true) (z : Int) {s : Ls} (hs : T.e = true → s = ⟨[], 0⟩) :
    Takes Try.prog (tabP T) ra base 6 (codeOf 33 (false :: pPre)) (mkT 59 (insPre (thY (.st z)) (thP (.st z)) w (T.pre.length : Int))) (hp 0 (thH (.st z) w s)) fun y => y = (.exit 0, mkT 59 [(0, thY (.st z)), (1, thP (.st z))], hp 0 (thH (.st z) w s)) := by
  obtain ⟨he, hn, hm⟩ := okW_iff.1 hw
  obtain ⟨e, n, m, la, ep⟩ := w
  simp only at he hn hm
  cases e with
  | true =>
    have hs := hs he.symm
    subst hs
    have hn0 : n = 0 := by rw [hn, h.e he.symm]; rfl
    have hp0 : T.pre.length = 0 := by rw [h.e he.symm]; rfl
    subst hn0
    rw [hp0]
    refine takes_of_tree (tabP_plain T) (wP T) (.inr (by kernel_rfl)) (hp_below _) (tho_pree T z m la ep) ?_
    simp only [Tree.holds]
    rfl
  | false =>
    have hn' : ¬ ((T.pre.length : Int) < (n : Int)) := by omega
    obtain ⟨l, c⟩ := s
    cases l with
    | nil =>
      refine takes_of_tree (tabP_plain T) (wP T) (.inr (by kernel_rfl)) (hp_below _) (tho_pre0 T z n m la ep (T.pre.length : Int) c) ?_
      simp only [Tree.holds, rf_eq, hn', decide_false, Bool.false_eq_true, false_implies, true_and, true_implies]
      rfl
    | cons b l =>
      refine takes_of_tree (tabP_plain T) (wP T) (.inr (by kernel_rfl)) (hp_below _) (tho_pre1 T z n m la ep (T.pre.length : Int) c (b :: l)) ?_
      simp only [Tree.holds, rf_eq, hn', decide_false, Bool.false_eq_true, false_implies, true_and, true_implies]
      rfl
theorem tho_po {T : Pt} (h : T.Ok) {w : Pw} (z : Int) {p : Int} {y : Pq} (hq : okQ T p y = true) {i : Nat} {a : Nd} {s : Ls} (ha : (itemsAt (p + 1) 1 (poL T y))[i]? = some a) (hs : okB 200 s) :
    Takes Try.prog (tabP T) ra base 6 (codeOf 33 (false :: pPo)) (mkT 59 (insPo (thY (.st z)) w.m p y (i : Int))) (hp 0 (thH (.st z) w s)) fun v => PostR (thH (.st z) w) .normal (insPo (thY (.st z)) w.m p y ((i + 1 : Nat) : Int)) (thStep (.st z) s a) v := by
  obtain ⟨hi, rfl⟩ := itemsAt_get _ _ _ i a ha
  obtain ⟨hq1, hq2⟩ := okQ_iff.1 hq
  obtain ⟨f, par, q⟩ := y
  obtain ⟨l, c⟩ := s
  obtain ⟨hl, hc0, hc1⟩ := hs
  simp only at hl hc0 hc1
  cases f with
  | true => exact absurd hi (Nat.not_lt_zero _)
  | false =>
    obtain ⟨hq2, hq3⟩ := hq2 rfl
    simp only at hq2 hq3
    subst hq2
    simp only [poL] at hi hq1
    have hp4 := h.po par
    have hwr : wr .i64 ((i : Int) + 1) = ((i + 1 : Nat) : Int) := by rw [wr_in ⟨by omega, by omega⟩]; omega
    have hwc : wr .i64 (c + 1) = c + 1 := wr_in ⟨by omega, by omega⟩
    have hwp : wr .i64 ((par : Int) + 1) = (par : Int) + 1 := wr_in ⟨by omega, by omega⟩
    have h0 : (0 : Int) < (par : Int) + 1 := by omega
    have h1 : ¬ ((par : Int) + 1 = 0) := by omega
    have h2 : ¬ (((i + 1 : Nat) : Int) = 0) := by omega
    have h3 : ¬ (((1 + i : Nat) : Int) = 0) := by omega
    have hin : (i : Int) < (q : Int) := by omega
    have hl' : (l ++ [c]).length ≤ 201 := by simp only [List.length_append, List.length_singleton]; omega
    obtain ⟨e, n, m, la, ep⟩ := w
    have hst : thStep (.st z) ⟨l, c⟩ ⟨(par : Int) + 1, ((1 + i : Nat) : Int), (poL T ⟨false, par, q⟩).getD i z4⟩ = .on ⟨l, c + 1⟩ := by
      have : Rt.ok (.st z) ⟨(par : Int) + 1, ((1 + i : Nat) : Int), (poL T ⟨false, par, q⟩).getD i z4⟩ = false := by simp only [Rt.ok, h0, h1, h3, decide_true, decide_false, Bool.and_true, Bool.and_false, Bool.false_and, Bool.true_and, Bool.not_false, Bool.not_true]
      simp only [thStep, this]
    rw [hst]
    cases e with
    | false =>
      cases l with
      | nil =>
        refine takes_of_tree (tabP_plain T) (wP T) (.inr (by kernel_rfl)) (hp_below _) (tho_po0f T z n m par q la ep par i c) ?_
        simp only [Tree.holds, rf_eq, hin, hi, hwr, hwc, hwp, h0, h1, h2, decide_true, decide_false, Bool.not_false, Bool.not_true, Int.toNat_natCast, Nat.zero_add, Bool.and_self, Bool.and_true, Bool.true_and, true_and, decide_eq_true_eq, decide_eq_false_iff_not, true_implies, Bool.true_eq_false, Bool.false_eq_true, false_implies, and_true]
        repeat' (first | apply And.intro | exact rfl | exact Nat.le_refl _ | omega | exact absurd hz (by assumption) | exact absurd (by assumption) hz | intro _)
      | cons b l =>
        refine takes_of_tree (tabP_plain T) (wP T) (.inr (by kernel_rfl)) (hp_below _) (tho_po1f T z n m par q la ep par i c (b :: l)) ?_
        simp only [Tree.holds, rf_eq, hin, hi, hwr, hwc, hwp, h0, h1, h2, gi, gi1 _ c, decide_true, decide_false, Bool.not_false, Bool.not_true, Int.toNat_natCast, Nat.zero_add, Bool.and_self, Bool.and_true, Bool.true_and, true_and, decide_eq_true_eq, decide_eq_false_iff_not, true_implies, Bool.true_eq_false, Bool.false_eq_true, false_implies, and_true]
        repeat' (first | apply And.intro | exact rfl | exact Nat.le_refl _ | omega | exact absurd hz (by assumption) | exact absurd (by assumption) hz | intro _)
    | true =>
      cases l with
      | nil =>
        refine takes_of_tree (tabP_plain T) (wP T) (.inr (by kernel_rfl)) (hp_below _) (tho_po0t T z m par q la ep par i c) ?_
        simp only [Tree.holds, rf_eq, hin, hi, hwr, hwc, hwp, h0, h1, h2, decide_true, decide_false, Bool.not_false, Bool.not_true, Int.toNat_natCast, Nat.zero_add, Bool.and_self, Bool.and_true, Bool.true_and, true_and, decide_eq_true_eq, decide_eq_false_iff_not, true_implies, Bool.true_eq_false, Bool.false_eq_true, false_implies, and_true]
        repeat' (first | apply And.intro | exact rfl | exact Nat.le_refl _ | omega | exact absurd hz (by assumption) | exact absurd (by assumption) hz | intro _)
      | cons b l =>
        refine takes_of_tree (tabP_plain T) (wP T) (.inr (by kernel_rfl)) (hp_below _) (tho_po1t T z m par q la ep par i c (b :: l)) ?_
        simp only [Tree.holds, rf_eq, hin, hi, hwr, hwc, hwp, h0, h1, h2, gi, gi1 _ c, decide_true, decide_false, Bool.not_false, Bool.not_true, Int.toNat_natCast, Nat.zero_add, Bool.and_self, Bool.and_true, Bool.true_and, true_and, decide_eq_true_eq, decide_eq_false_iff_not, true_implies, Bool.true_eq_false, Bool.false_eq_true, false_implies, and_true]
        repeat' (first | apply And.intro | exact rfl | exact Nat.le_refl _ | omega | exact absurd hz (by assumption) | exact absurd (by assumption) hz | intro _)
theorem tho_po_end {T : Pt} {w : Pw} (z : Int) {p : Int} {y : Pq} (hq : okQ T p y = true) {s : Ls} :
    Takes Try.prog (tabP T) ra base 6 (codeOf 33 (false :: pPo)) (mkT 59 (insPo (thY (.st z)) w.m p y ((poL T y).length : Int))) (hp 0 (thH (.st z) w s)) fun v => v = (.exit 4, mkT 59 (outPo (thY (.st z)) w.m p), hp 0 (thH (.st z) w s)) := by
  obtain ⟨hq1, _⟩ := okQ_iff.1 hq
  obtain ⟨f, par, q⟩ := y
  obtain ⟨e, n, m, la, ep⟩ := w
  obtain ⟨l, c⟩ := s
  simp only at hq1
  have hn : ¬ (((poL T ⟨f, par, q⟩).length : Int) < (q : Int)) := by
    rw [hq1]; exact Int.lt_irrefl _
  cases f with
  | true =>
    have hq0 : q = 0 := hq1
    subst hq0
    cases e with
    | false =>
      cases l with
      | nil =>
        refine takes_of_tree (tabP_plain T) (wP T) (.inr (by kernel_rfl)) (hp_below _) (tho_pe0f T z n m la ep p c) ?_
        simp only [Tree.holds]
        rfl
      | cons b l =>
        refine takes_of_tree (tabP_plain T) (wP T) (.inr (by kernel_rfl)) (hp_below _) (tho_pe1f T z n m la ep p c (b :: l)) ?_
        simp only [Tree.holds]
        rfl
    | true =>
      cases l with
      | nil =>
        refine takes_of_tree (tabP_plain T) (wP T) (.inr (by kernel_rfl)) (hp_below _) (tho_pe0t T z m la ep p c) ?_
        simp only [Tree.holds]
        rfl
      | cons b l =>
        refine takes_of_tree (tabP_plain T) (wP T) (.inr (by kernel_rfl)) (hp_below _) (tho_pe1t T z m la ep p c (b :: l)) ?_
        simp only [Tree.holds]
        rfl
  | false =>
    cases e with
    | false =>
      cases l with
      | nil =>
        refine takes_of_tree (tabP_plain T) (wP T) (.inr (by kernel_rfl)) (hp_below _) (tho_po0f T z n m par q la ep p ((poL T ⟨false, par, q⟩).length : Int) c) ?_
        simp only [Tree.holds, rf_eq, hn, decide_false, Bool.false_eq_true, false_implies, true_and, true_implies]
        rfl
      | cons b l =>
        refine takes_of_tree (tabP_plain T) (wP T) (.inr (by kernel_rfl)) (hp_below _) (tho_po1f T z n m par q la ep p ((poL T ⟨false, par, q⟩).length : Int) c (b :: l)) ?_
        simp only [Tree.holds, rf_eq, hn, decide_false, Bool.false_eq_true, false_implies, true_and, true_implies]
        rfl
    | true =>
      cases l with
      | nil =>
        refine takes_of_tree (tabP_plain T) (wP T) (.inr (by kernel_rfl)) (hp_below _) (tho_po0t T z m par q la ep p ((poL T ⟨false, par, q⟩).length : Int) c) ?_
        simp only [Tree.holds, rf_eq, hn, decide_false, Bool.false_eq_true, false_implies, true_and, true_implies]
        rfl
      | cons b l =>
        refine takes_of_tree (tabP_plain T) (wP T) (.inr (by kernel_rfl)) (hp_below _) (tho_po1t T z m par q la ep p ((poL T ⟨false, par, q⟩).length : Int) c (b :: l)) ?_
        simp only [Tree.holds, rf_eq, hn, decide_false, Bool.false_eq_true, false_implies, true_and, true_implies]
        rfl
theorem thq_pre {T : Pt} (h : T.Ok) {w : Pw} (hw : okW T w = true) (z : Int) {i : Nat} {a : Nd} {s : Ls} (ha : (itemsAt 0 0 T.pre)[i]? = some a) (hs : okB 200 s) :
    Takes Try.prog (tabP T) ra base 6 (codeOf 33 (false :: pPre)) (mkT 59 (insPre (thY (.po z)) (thP (.po z)) w (i : Int))) (hp 0 (thH (.po z) w s)) fun y => PostR (thH (.po z) w) .normal (insPre (thY (.po z)) (thP (.po z)) w ((i + 1 : Nat) : Int)) (thStep (.po z) s a) y := by
  obtain ⟨hi, rfl⟩ := itemsAt_get 0 T.pre 0 i a ha
  obtain ⟨he, hn, hm⟩ := okW_iff.1 hw
  obtain ⟨e, n, m, la, ep⟩ := w
  obtain ⟨l, c⟩ := s
  obtain ⟨hl, hc0, hc1⟩ := hs
  simp only at he hn hm hl hc0 hc1
  have he' : e = false := by
    cases e with
    | false => rfl
    | true => have := h.e he.symm; rw [this] at hi; simp at hi
  subst he'
  have hp4 := h.pre
  have hwr : wr .i64 ((i : Int) + 1) = ((i + 1 : Nat) : Int) := by rw [wr_in ⟨by omega, by omega⟩]; omega
  have hwc : wr .i64 (c + 1) = c + 1 := wr_in ⟨by omega, by omega⟩
  have hin : (i : Int) < (n : Int) := by omega
  have hl' : (l ++ [c]).length ≤ 201 := by simp only [List.length_append, List.length_singleton]; omega
  have hst : thStep (.po z) ⟨l, c⟩ ⟨0, ((0 + i : Nat) : Int), T.pre.getD i z4⟩ = .on ⟨l, c + 1⟩ := by
    have : Rt.ok (.po z) ⟨0, ((0 + i : Nat) : Int), T.pre.getD i z4⟩ = false := by simp [Rt.ok]
    simp only [thStep, this]
  rw [hst]
  cases l with
  | nil =>
    refine takes_of_tree (tabP_plain T) (wP T) (.inr (by kernel_rfl)) (hp_below _) (thq_pre0 T z n m la ep i c) ?_
    simp only [Tree.holds, rf_eq, hin, hi, hwr, hwc, decide_true, decide_false, Bool.not_false, Bool.not_true, Int.toNat_natCast, Nat.zero_add, Bool.and_self, Bool.and_true, Bool.true_and, true_and, decide_eq_true_eq, decide_eq_false_iff_not, true_implies, Bool.true_eq_false, Bool.false_eq_true, false_implies, and_true]
    repeat' (first | apply And.intro | exact rfl | exact Nat.le_refl _ | omega | exact absurd hz (by assumption) | exact absurd (by assumption) hz | intro _)
  | cons b l =>
    refine takes_of_tree (tabP_plain T) (wP T) (.inr (by kernel_rfl)) (hp_below _) (thq_pre1 T z n m la ep i c (b :: l)) ?_
    simp only [Tree.holds, rf_eq, hin, hi, hwr, hwc, gi, gi1 _ c, decide_true, decide_false, Bool.not_false, Bool.not_true, Int.toNat_natCast, Nat.zero_add, Bool.and_self, Bool.and_true, Bool.true_and, true_and, decide_eq_true_eq, decide_eq_false_iff_not, true_implies, Bool.true_eq_false, Bool.false_eq_true, false_implies, and_true]
    repeat' (first | apply And.intro | exact rfl | exact Nat.le_refl _ | omega | exact absurd hz (by assumption) | exact absurd (by assumption) hz | intro _)
theorem thq_pre_end {T : Pt} (h : T.Ok) {w : Pw} (hw : okW T w = true) (z : Int) {s : Ls} (hs : T.e = true → s = ⟨[], 0⟩) :
    Takes Try.prog (tabP T) ra base 6 (codeOf 33 (false :: pPre)) (mkT 59 (insPre (thY (.po z)) (thP (.po z)) w (T.pre.length : Int))) (hp 0 (thH (.po z) w s)) fun y => y = (.exit 0, mkT 59 [(0, thY (.po z)), (1, thP (.po z))], hp 0 (thH (.po z) w s)) := by
  obtain ⟨he, hn, hm⟩ := okW_iff.1 hw
  obtain ⟨e, n, m, la, ep⟩ := w
  simp only at he hn hm
  cases e with
  | true =>
    have hs := hs he.symm
    subst hs
    have hn0 : n = 0 := by rw [hn, h.e he.symm]; rfl
    have hp0 : T.pre.length = 0 := by rw [h.e he.symm]; rfl
    subst hn0
    rw [hp0]
    refine takes_of_tree (tabP_plain T) (wP T) (.inr (by kernel_rfl)) (hp_below _) (thq_pree T z m la ep) ?_
    simp only [Tree.holds]
    rfl
  | false =>
    have hn' : ¬ ((T.pre.length : Int) < (n : Int)) := by omega
    obtain ⟨l, c⟩ := s
    cases l with
    | nil =>
      refine takes_of_tree (tabP_plain T) (wP T) (.inr (by kernel_rfl)) (hp_below _) (thq_pre0 T z n m la ep (T.pre.length : Int) c) ?_
      simp only [Tree.holds, rf_eq, hn', decide_false, Bool.false_eq_true, false_implies, true_and, true_implies]
      rfl
    | cons b l =>
      refine takes_of_tree (tabP_plain T) (wP T) (.inr (by kernel_rfl)) (hp_below _) (thq_pre1 T z n m la ep (T.pre.length : Int) c (b :: l)) ?_
      simp only [Tree.holds, rf_eq, hn', decide_false, Bool.false_eq_true, false_implies, true_and, true_implies]
      rfl
theorem thq_po {T : Pt} (h : T.Ok) {w : Pw} (z : Int) {p : Int} {y : Pq} (hq : okQ T p y = true) {i : Nat} {a : Nd} {s : Ls} (ha : (itemsAt (p + 1) 1 (poL T y))[i]? = some a) (hs : okB 200 s) :
    Takes Try.prog (tabP T) ra base 6 (codeOf 33 (false :: pPo)) (mkT 59 (insPo (thY (.po z)) w.m p y (i : Int))) (hp 0 (thH (.po z) w s)) fun v => PostR (thH (.po z) w) .normal (insPo (thY (.po z)) w.m p y ((i + 1 : Nat) : Int)) (thStep (.po z) s a) v := by
  obtain ⟨hi, rfl⟩ := itemsAt_get _ _ _ i a ha
  obtain ⟨hq1, hq2⟩ := okQ_iff.1 hq
  obtain ⟨f, par, q⟩ := y
  obtain ⟨l, c⟩ := s
  obtain ⟨hl, hc0, hc1⟩ := hs
  simp only at hl hc0 hc1
  cases f with
  | true => exact absurd hi (Nat.not_lt_zero _)
  | false =>
    obtain ⟨hq2, hq3⟩ := hq2 rfl
    simp only at hq2 hq3
    subst hq2
    simp only [poL] at hi hq1
    have hp4 := h.po par
    have hwr : wr .i64 ((i : Int) + 1) = ((i + 1 : Nat) : Int) := by rw [wr_in ⟨by omega, by omega⟩]; omega
    have hwc : wr .i64 (c + 1) = c + 1 := wr_in ⟨by omega, by omega⟩
    have hwp : wr .i64 ((par : Int) + 1) = (par : Int) + 1 := wr_in ⟨by omega, by omega⟩
    have h0 : (0 : Int) < (par : Int) + 1 := by omega
    have h1 : ¬ ((par : Int) + 1 = 0) := by omega
    have h2 : ¬ (((i + 1 : Nat) : Int) = 0) := by omega
    have h3 : ¬ (((1 + i : Nat) : Int) = 0) := by omega
    have hin : (i : Int) < (q : Int) := by omega
    have hl' : (l ++ [c]).length ≤ 201 := by simp only [List.length_append, List.length_singleton]; omega
    obtain ⟨e, n, m, la, ep⟩ := w
    by_cases hz : (par : Int) + 1 = z
    · have dz : decide ((par : Int) + 1 = z) = true := decide_eq_true hz
      have hst : thStep (.po z) ⟨l, c⟩ ⟨(par : Int) + 1, ((1 + i : Nat) : Int), (poL T ⟨false, par, q⟩).getD i z4⟩ = .on ⟨l ++ [c], c + 1⟩ := by
        have : Rt.ok (.po z) ⟨(par : Int) + 1, ((1 + i : Nat) : Int), (poL T ⟨false, par, q⟩).getD i z4⟩ = true := by simp only [Rt.ok, h0, h1, h3, dz, decide_true, decide_false, Bool.and_true, Bool.and_false, Bool.false_and, Bool.true_and, Bool.not_false, Bool.not_true]
        simp only [thStep, this]
      rw [hst]
      cases e with
      | false =>
        cases l with
        | nil =>
          refine takes_of_tree (tabP_plain T) (wP T) (.inr (by kernel_rfl)) (hp_below _) (thq_po0f T z n m par q la ep par i c) ?_
          simp only [Tree.holds, rf_eq, hin, hi, hwr, hwc, hwp, h0, h1, h2, dz, decide_true, decide_false, Bool.not_false, Bool.not_true, Int.toNat_natCast, Nat.zero_add, Bool.and_self, Bool.and_true, Bool.true_and, true_and, decide_eq_true_eq, decide_eq_false_iff_not, true_implies, Bool.true_eq_false, Bool.false_eq_true, false_implies, and_true]
          repeat' (first | apply And.intro | exact rfl | exact Nat.le_refl _ | omega | exact absurd hz (by assumption) | exact absurd (by assumption) hz | intro _)
        | cons b l =>
          refine takes_of_tree (tabP_plain T) (wP T) (.inr (by kernel_rfl)) (hp_below _) (thq_po1f T z n m par q la ep par i c (b :: l)) ?_
          simp only [Tree.holds, rf_eq, hin, hi, hwr, hwc, hwp, h0, h1, h2, dz, gi, gi1 _ c, decide_true, decide_false, Bool.not_false, Bool.not_true, Int.toNat_natCast, Nat.zero_add, Bool.and_self, Bool.and_true, Bool.true_and, true_and, decide_eq_true_eq, decide_eq_false_iff_not, true_implies, Bool.true_eq_false, Bool.false_eq_true, false_implies, and_true]
          repeat' (first | apply And.intro | exact rfl | exact Nat.le_refl _ | omega | exact absurd hz (by assumption) | exact absurd (by assumption) hz | intro _)
      | true =>
        cases l with
        | nil =>
          refine takes_of_tree (tabP_plain T) (wP T) (.inr (by kernel_rfl)) (hp_below _) (thq_po0t T z m par q la ep par i c) ?_
          simp only [Tree.holds, rf_eq, hin, hi, hwr, hwc, hwp, h0, h1, h2, dz, decide_true, decide_false, Bool.not_false, Bool.not_true, Int.toNat_natCast, Nat.zero_add, Bool.and_self, Bool.and_true, Bool.true_and, true_and, decide_eq_true_eq, decide_eq_false_iff_not, true_implies, Bool.true_eq_false, Bool.false_eq_true, false_implies, and_true]
          repeat' (first | apply And.intro | exact rfl | exact Nat.le_refl _ | omega | exact absurd hz (by assumption) | exact absurd (by assumption) hz | intro _)
        | cons b l =>
          refine takes_of_tree (tabP_plain T) (wP T) (.inr (by kernel_rfl)) (hp_below _) (thq_po1t T z m par q la ep par i c (b :: l)) ?_
          simp only [Tree.holds, rf_eq, hin, hi, hwr, hwc, hwp, h0, h1, h2, dz, gi, gi1 _ c, decide_true, decide_false, Bool.not_false, Bool.not_true, Int.toNat_natCast, Nat.zero_add, Bool.and_self, Bool.and_true, Bool.true_and, true_and, decide_eq_true_eq, decide_eq_false_iff_not, true_implies, Bool.true_eq_false, Bool.false_eq_true, false_implies, and_true]
          repeat' (first | apply And.intro | exact rfl | exact Nat.le_refl _ | omega | exact absurd hz (by assumption) | exact absurd (by assumption) hz | intro _)
    · have hst : thStep (.po z) ⟨l, c⟩ ⟨(par : Int) + 1, ((1 + i : Nat) : Int), (poL T ⟨false, par, q⟩).getD i z4⟩ = .on ⟨l, c + 1⟩ := by
        have : Rt.ok (.po z) ⟨(par : Int) + 1, ((1 + i : Nat) : Int), (poL T ⟨false, par, q⟩).getD i z4⟩ = false := by simp only [Rt.ok, h0, h1, h3, hz, decide_true, decide_false, Bool.and_true, Bool.and_false, Bool.false_and, Bool.true_and, Bool.not_false, Bool.not_true]
        simp only [thStep, this]
      rw [hst]
      cases e with
      | false =>
        cases l with
        | nil =>
          refine takes_of_tree (tabP_plain T) (wP T) (.inr (by kernel_rfl)) (hp_below _) (thq_po0f T z n m par q la ep par i c) ?_
          simp only [Tree.holds, rf_eq, hin, hi, hwr, hwc, hwp, h0, h1, h2, hz, decide_true, decide_false, Bool.not_false, Bool.not_true, Int.toNat_natCast, Nat.zero_add, Bool.and_self, Bool.and_true, Bool.true_and, true_and, decide_eq_true_eq, decide_eq_false_iff_not, true_implies, Bool.true_eq_false, Bool.false_eq_true, false_implies, and_true]
          repeat' (first | apply And.intro | exact rfl | exact Nat.le_refl _ | omega | exact absurd hz (by assumption) | exact absurd (by assumption) hz | intro _)
        | cons b l =>
          refine takes_of_tree (tabP_plain T) (wP T) (.inr (by kernel_rfl)) (hp_below _) (thq_po1f T z n m par q la ep par i c (b :: l)) ?_
          simp only [Tree.holds, rf_eq, hin, hi, hwr, hwc, hwp, h0, h1, h2, hz, gi, gi1 _ c, decide_true, decide_false, Bool.not_false, Bool.not_true, Int.toNat_natCast, Nat.zero_add, Bool.and_self, Bool.and_true, Bool.true_and, true_and, decide_eq_true_eq, decide_eq_false_iff_not, true_implies, Bool.true_eq_false, Bool.false_eq_true, false_implies, and_true]
          repeat' (first | apply And.intro | exact rfl | exact Nat.le_refl _ | omega | exact absurd hz (by assumption) | exact absurd (by assumption) hz | intro _)
      | true =>
        cases l with
        | nil =>
          refine takes_of_tree (tabP_plain T) (wP T) (.inr (by kernel_rfl)) (hp_below _) (thq_po0t T z m par q la ep par i c) ?_
          simp only [Tree.holds, rf_eq, hin, hi, hwr, hwc, hwp, h0, h1, h2, hz, decide_true, decide_false, Bool.not_false, Bool.not_true, Int.toNat_natCast, Nat.zero_add, Bool.and_self, Bool.and_true, Bool.true_and, true_and, decide_eq_true_eq, decide_eq_false_iff_not, true_implies, Bool.true_eq_false, Bool.false_eq_true, false_implies, and_true]
          repeat' (first | apply And.intro | exact rfl | exact Nat.le_refl _ | omega | exact absurd hz (by assumption) | exact absurd (by assumption) hz | intro _)
        | cons b l =>
          refine takes_of_tree (tabP_plain T) (wP T) (.inr (by kernel_rfl)) (hp_below _) (thq_po1t T z m par q la ep par i c (b :: l)) ?_
          simp only [Tree.holds, rf_eq, hin, hi, hwr, hwc, hwp, h0, h1, h2, hz, gi, gi1 _ c, decide_true, decide_false, Bool.not_false, Bool.not_true, Int.toNat_natCast, Nat.zero_add, Bool.and_self, Bool.and_true, Bool.true_and, true_and, decide_eq_true_eq, decide_eq_false_iff_not, true_implies, Bool.true_eq_false, Bool.false_eq_true, false_implies, and_true]
          repeat' (first | apply And.intro | exact rfl | exact Nat.le_refl _ | omega | exact absurd hz (by assumption) | exact absurd (by assumption) hz | intro _)
theorem thq_po_end {T : Pt} {w : Pw} (z : Int) {p : Int} {y : Pq} (hq : okQ T p y = true) {s : Ls} :
    Takes Try.prog (tabP T) ra base 6 (codeOf 33 (false :: pPo)) (mkT 59 (insPo (thY (.po z)) w.m p y ((poL T y).length : Int))) (hp 0 (thH (.po z) w s)) fun v => v = (.exit 4, mkT 59 (outPo (thY (.po z)) w.m p), hp 0 (thH (.po z) w s)) := by
  obtain ⟨hq1, _⟩ := okQ_iff.1 hq
  obtain ⟨f, par, q⟩ := y
  obtain ⟨e, n, m, la, ep⟩ := w
  obtain ⟨l, c⟩ := s
  simp only at hq1
  have hn : ¬ (((poL T ⟨f, par, q⟩).length : Int) < (q : Int)) := by
    rw [hq1]; exact Int.lt_irrefl _
  cases f with
  | true =>
    have hq0 : q = 0 := hq1
    subst hq0
    cases e with
    | false =>
      cases l with
      | nil =>
        refine takes_of_tree (tabP_plain T) (wP T) (.inr (by kernel_rfl)) (hp_below _) (thq_pe0f T z n m la ep p c) ?_
        simp only [Tree.holds]
        rfl
      | cons b l =>
        refine takes_of_tree (tabP_plain T) (wP T) (.inr (by kernel_rfl)) (hp_below _) (thq_pe1f T z n m la ep p c (b :: l)) ?_
        simp only [Tree.holds]
        rfl
    | true =>
      cases l with
      | nil =>
        refine takes_of_tree (tabP_plain T) (wP T) (.inr (by kernel_rfl)) (hp_below _) (thq_pe0t T z m la ep p c) ?_
        simp only [Tree.holds]
        rfl
      | cons b l =>
        refine takes_of_tree (tabP_plain T) (wP T) (.inr (by kernel_rfl)) (hp_below _) (thq_pe1t T z m la ep p c (b :: l)) ?_
        simp only [Tree.holds]
        rfl
  | false =>
    cases e with
    | false =>
      cases l with
      | nil =>
        refine takes_of_tree (tabP_plain T) (wP T) (.inr (by kernel_rfl)) (hp_below _) (thq_po0f T z n m par q la ep p ((poL T ⟨false, par, q⟩).length : Int) c) ?_
        simp only [Tree.holds, rf_eq, hn, decide_false, Bool.false_eq_true, false_implies, true_and, true_implies]
        rfl
      | cons b l =>
        refine takes_of_tree (tabP_plain T) (wP T) (.inr (by kernel_rfl)) (hp_below _) (thq_po1f T z n m par q la ep p ((poL T ⟨false, par, q⟩).length : Int) c (b :: l)) ?_
        simp only [Tree.holds, rf_eq, hn, decide_false, Bool.false_eq_true, false_implies, true_and, true_implies]
        rfl
    | true =>
      cases l with
      | nil =>
        refine takes_of_tree (tabP_plain T) (wP T) (.inr (by kernel_rfl)) (hp_below _) (thq_po0t T z m par q la ep p ((poL T ⟨false, par, q⟩).length : Int) c) ?_
        simp only [Tree.holds, rf_eq, hn, decide_false, Bool.false_eq_true, false_implies, true_and, true_implies]
        rfl
      | cons b l =>
        refine takes_of_tree (tabP_plain T) (wP T) (.inr (by kernel_rfl)) (hp_below _) (thq_po1t T z m par q la ep p ((poL T ⟨false, par, q⟩).length : Int) c (b :: l)) ?_
        simp only [Tree.holds, rf_eq, hn, decide_false, Bool.false_eq_true, false_implies, true_and, true_implies]
        rfl
end
end Go.Proofs.Ytompijagcjjamaa
