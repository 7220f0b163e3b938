/- Parts of the walk: check, as trees; Stage, Check: rounds and loops (printed by mk08h.py); Stage, Check: the whole (printed by mk08i.py); those nodes, told; Pre, Of, Post; Pre, Of, Post, as trees; Pre, Of, Post, Check keep their contracts on tables; a plan of one's own: its blocks; seen as tables. -/
import Derived.Test.YtompijagcjjamaaG04

set_option linter.unusedSimpArgs false
set_option linter.unusedVariables false
namespace Go.Proofs.Ytompijagcjjamaa
open Ab
theorem ck_pre (T : Pt) (n m : Nat) (la ep i c : Int) : ((W (tabP T) SO noL 33 (false :: pPre) false (codeOf 33 (false :: pPre)) (mkT 59 (insPre ckY ckP ⟨false, n, m, la, ep⟩ i))).full ⟨hp 0 (ckC ⟨false, n, m, la, ep⟩ c), 5, [], []⟩ leafS).take 5 (.x (.n (.n (.c (.c (.n (.c (.x (.c (.leaf [0, 1, 2, 3, 4] 3)) (cs 5 (.n (.c (.c (.x (.c (.leaf [0, 1, 2, 3, 4] 3)) (.c (.leaf [0, 1, 2, 3, 4] 7171)))))))))))))) (.leaf [0, 1, 2, 3, 4] 3)) =
(let u0 := (0 + Int.toNat i)
let i0 : Bool := (rf (List.getD (k4 (Pt.pre T)) u0 0) && (rf (List.getD (a4 (Pt.pre T)) u0 0) && (rf (List.getD (b4 (Pt.pre T)) u0 0) && (rf (List.getD (g4 (Pt.pre T)) u0 0) && true))) && true && true)
let j0 : O4 := { k := List.getD (k4 (Pt.pre T)) u0 0, a := List.getD (a4 (Pt.pre T)) u0 0, b := List.getD (b4 (Pt.pre T)) u0 0, g := List.getD (g4 (Pt.pre T)) u0 0 }
let m0 : Blk := (.segs [⟨1, 1, [.int .i64 [c]]⟩])
let v0 : Blk := (.segs [⟨1, 1, [.int .i64 [0]]⟩])
let w0 := (planB false n m la ep)
let x0 : List (Nat × AVal) := [(0, .yld 4), (1, .ptr (.own 3 0 0 0))]
(.br (decide (i < (↑n : Int))) (.need (decide (0 ≤ i) && decide (i < (↑n : Int))) (.need (decide (0 + Int.toNat i < List.length (Pt.pre T))) (.need i0 (.br (!decide (checkE j0 = 0)) (.leaf (.ret, mkT 59 x0, [(0, some m0), (1, some (.segs [⟨1, 1, [.int .i64 [13]]⟩])), (2, some m0), (3, some w0), (4, some (ckLd))])) (.need i0 (.br (decide (false = decide (classE j0 = 0))) (.leaf (.ret, mkT 59 x0, [(0, some m0), (1, some (.segs [⟨1, 1, [.int .i64 [14]]⟩])), (2, some m0), (3, some w0), (4, some (ckLd))])) (.leaf (.normal, mkT 59 [(0, .yld 4), (1, .ptr (.own 3 0 0 0)), (10, .slice (.ro 0 0 0 0) n none), (11, .int .i64 (↑n : Int)), (12, .int .i64 (wr .i64 (i + 1)))], [(0, some v0), (1, some v0), (2, some (.segs [⟨1, 1, [.int .i64 [wr .i64 (c + 1)]]⟩])), (3, some w0), (4, some (ckL))])))))))) (.leaf (.exit 0, mkT 59 x0, [(0, some v0), (1, some v0), (2, some m0), (3, some w0), (4, some (ckL))])))) := by kernel_rfl
theorem ck_pree (T : Pt) (m : Nat) (la ep c : Int) : ((W (tabP T) SO noL 33 (false :: pPre) false (codeOf 33 (false :: pPre)) (mkT 59 (insPre ckY ckP ⟨true, 0, m, la, ep⟩ 0))).full ⟨hp 0 (ckC ⟨true, 0, m, la, ep⟩ c), 5, [], []⟩ leafS).take 5 (.c (.leaf [0, 1, 2, 3, 4] 3)) =
(.leaf (.exit 0, mkT 59 [(0, .yld 4), (1, .ptr (.own 3 0 0 0))], [(0, some (.segs [⟨1, 1, [.int .i64 [0]]⟩])), (1, some (.segs [⟨1, 1, [.int .i64 [0]]⟩])), (2, some (.segs [⟨1, 1, [.int .i64 [c]]⟩])), (3, some (planB true 0 m la ep)), (4, some (ckL))])) := by kernel_rfl
theorem ck_pof (T : Pt) (n m : Nat) (par q : Nat) (la ep p j c : Int) : ((W (tabP T) SO noL 33 (false :: pPo) false (codeOf 33 (false :: pPo)) (mkT 59 (insPo ckY m p ⟨false, par, q⟩ j))).full ⟨hp 0 (ckC ⟨false, n, m, la, ep⟩ c), 5, [], []⟩ leafS).take 5 (.x (.n (.n (.c (.c (.n (.c (.x (.c (.leaf [0, 1, 2, 3, 4] 234881025)) (.x (.c (.c (.c (.n (.c (.c (.x (.c (.leaf [0, 1, 2, 3, 4] 234881025)) (.c (.leaf [0, 1, 2, 3, 4] 15393397669921))))))))) (cs 4 (.n (.c (.c (.x (.c (.leaf [0, 1, 2, 3, 4] 234881025)) (.c (.leaf [0, 1, 2, 3, 4] 15393397669921))))))))))))))) (.leaf [0, 1, 2, 3, 4] 234881025)) =
(let q0 := (Pt.po T par)
let x0 := (0 + Int.toNat j)
let i0 : Bool := (rf (List.getD (k4 q0) x0 0) && (rf (List.getD (a4 q0) x0 0) && (rf (List.getD (b4 q0) x0 0) && (rf (List.getD (g4 q0) x0 0) && true))) && true && true)
let i1 := (planB false n m la ep)
let z0 : Blk := (.segs [⟨1, 1, [.int .i64 [0]]⟩])
let j0 : Tree State := (.leaf (.normal, mkT 59 [(0, .yld 4), (5, .int .i64 p), (25, .slice (.ro 1 0 0 0) m none), (26, .int .i64 (↑m : Int)), (27, .int .i64 p), (41, .slice (.ro 2 par 0 0) q none), (42, .int .i64 (↑q : Int)), (43, .int .i64 (wr .i64 (j + 1)))], [(0, some z0), (1, some z0), (2, some (.segs [⟨1, 1, [.int .i64 [wr .i64 (c + 1)]]⟩])), (3, some i1), (4, some (ckL))]))
let m0 : O4 := { k := List.getD (k4 q0) x0 0, a := List.getD (a4 q0) x0 0, b := List.getD (b4 q0) x0 0, g := List.getD (g4 q0) x0 0 }
let w0 : Blk := (.segs [⟨1, 1, [.int .i64 [c]]⟩])
let v0 : List (Nat × AVal) := [(0, .yld 4), (25, .slice (.ro 1 0 0 0) m none), (26, .int .i64 (↑m : Int)), (27, .int .i64 p)]
let u0 : Tree State := (.leaf (.ret, mkT 59 v0, [(0, some w0), (1, some (.segs [⟨1, 1, [.int .i64 [14]]⟩])), (2, some w0), (3, some i1), (4, some (ckLd))]))
(.br (decide (j < (↑q : Int))) (.need (decide (0 ≤ j) && decide (j < (↑q : Int))) (.need (decide (0 + Int.toNat j < List.length q0)) (.need i0 (.br (!decide (checkE m0 = 0)) (.leaf (.ret, mkT 59 v0, [(0, some w0), (1, some (.segs [⟨1, 1, [.int .i64 [13]]⟩])), (2, some w0), (3, some i1), (4, some (ckLd))])) (.br (decide (0 < wr .i64 (p + 1))) (.need i0 (.br (decide (decide (wr .i64 (j + 1) = 0) = decide (classE m0 = 0))) u0 j0)) (.need i0 (.br (decide (false = decide (classE m0 = 0))) u0 j0))))))) (.leaf (.exit 4, mkT 59 v0, [(0, some z0), (1, some z0), (2, some w0), (3, some i1), (4, some (ckL))])))) := by kernel_rfl
theorem ck_pef (T : Pt) (n m : Nat) (la ep p c : Int) : ((W (tabP T) SO noL 33 (false :: pPo) false (codeOf 33 (false :: pPo)) (mkT 59 (insPo ckY m p ⟨true, 0, 0⟩ 0))).full ⟨hp 0 (ckC ⟨false, n, m, la, ep⟩ c), 5, [], []⟩ leafS).take 5 (.c (.leaf [0, 1, 2, 3, 4] 234881025)) =
(.leaf (.exit 4, mkT 59 [(0, .yld 4), (25, .slice (.ro 1 0 0 0) m none), (26, .int .i64 (↑m : Int)), (27, .int .i64 p)], [(0, some (.segs [⟨1, 1, [.int .i64 [0]]⟩])), (1, some (.segs [⟨1, 1, [.int .i64 [0]]⟩])), (2, some (.segs [⟨1, 1, [.int .i64 [c]]⟩])), (3, some (planB false n m la ep)), (4, some (ckL))])) := by kernel_rfl
theorem ck_stf (T : Pt) (n m : Nat) (la ep p c : Int) : ((execT (W (tabP T) SO noL) (ckTPo T) 5 400 33 (false :: pSt) (codeOf 33 (false :: pSt)) (mkT 59 (insSt ckY m p)) ⟨hp 0 (ckC ⟨false, n, m, la, ep⟩ c), 5, [], []⟩ leafQ)).take 5 (.x (.n (.n (.x (.c (.c (.n (.c (.x (.c (.leaf [0, 1, 2, 3, 4] 0)) (.x (.c (.c (.c (.n (.c (.c (.x (.c (.leaf [0, 1, 2, 3, 4] 0)) (.c (.c (.n (.n (.n (.b (.a (.i (.leaf [0, 1, 2, 3, 4] 234881025))) (.a (.i (.leaf [0, 1, 2, 3, 4] 0)))))))))))))))) (csQ 4 (.n (.c (.c (.x (.c (.leaf [0, 1, 2, 3, 4] 0)) (.c (.c (.n (.n (.n (.b (.a (.i (.leaf [0, 1, 2, 3, 4] 234881025))) (.a (.i (.leaf [0, 1, 2, 3, 4] 0)))))))))))))))))))) (.c (.c (.n (.c (.x (.c (.leaf [0, 1, 2, 3, 4] 0)) (.x (.c (.c (.c (.n (.c (.c (.x (.c (.leaf [0, 1, 2, 3, 4] 0)) (.c (.c (.n (.n (.n (.b (.a (.i (.leaf [0, 1, 2, 3, 4] 234881025))) (.a (.i (.leaf [0, 1, 2, 3, 4] 0)))))))))))))))) (csQ 4 (.n (.c (.c (.x (.c (.leaf [0, 1, 2, 3, 4] 0)) (.c (.c (.n (.n (.n (.b (.a (.i (.leaf [0, 1, 2, 3, 4] 234881025))) (.a (.i (.leaf [0, 1, 2, 3, 4] 0))))))))))))))))))))))) (.leaf [0, 1, 2, 3, 4] 0)) =
(let x0 := (0 + Int.toNat p)
let i0 : Bool := (rf (List.getD (k4 (Pt.st T)) x0 0) && (rf (List.getD (a4 (Pt.st T)) x0 0) && (rf (List.getD (b4 (Pt.st T)) x0 0) && (rf (List.getD (g4 (Pt.st T)) x0 0) && true))) && true && true)
let j0 : O4 := { k := List.getD (k4 (Pt.st T)) x0 0, a := List.getD (a4 (Pt.st T)) x0 0, b := List.getD (b4 (Pt.st T)) x0 0, g := List.getD (g4 (Pt.st T)) x0 0 }
let v0 : Seg := ⟨1, 1, [.int .i64 [0]]⟩
let m0 := (okBl [.segs [v0], .segs [v0], .segs [⟨1, 1, [.int .i64 [wr .i64 (c + 1)]]⟩], planB false n m la ep, ckL] [.segs [v0], .segs [v0], .segs [⟨1, 1, [.int .i64 [wr .i64 (c + 1)]]⟩], planB false n m la ep, ckL])
let q0 : Blk := (.segs [⟨1, 1, [.int .i64 [c]]⟩])
let z0 := (planB false n m la ep)
let u0 : TreeQ State := (.leaf (.ret, mkT 59 [], [(0, some q0), (1, some (.segs [⟨1, 1, [.int .i64 [14]]⟩])), (2, some q0), (3, some z0), (4, some (ckLd))]))
let w0 : List (Nat × AVal) := [(0, .yld 4), (25, .slice (.ro 1 0 0 0) m none), (26, .int .i64 (↑m : Int)), (27, .int .i64 (wr .i64 (p + 1)))]
let i1 : Bool := (rf p && (rf m && true && (rf ((↑m : Int)) && (rf p && (rf x0 && true && (rf (List.getD (Pt.ns T) x0 0) && true) && (rf ((↑(List.getD (Pt.ns T) x0 0) : Int)) && true))))))
let j1 := (List.getD [c] 0 0 + 1)
let m1 : TreeQ State := (.leaf (.ret, mkT 59 [], [(0, some q0), (1, some (.segs [⟨1, 1, [.int .i64 [13]]⟩])), (2, some q0), (3, some z0), (4, some (ckLd))]))
let u1 := (okI 100 (wr .i64 (c + 1)) && okQ T p { f := false, par := 0 + Int.toNat p, q := List.getD (Pt.ns T) x0 0 })
let v1 : Blk := (.segs [v0])
let w1 : Bool := (rf p && (rf m && true && (rf ((↑m : Int)) && (rf p && true))))
(.br (decide (p < (↑m : Int))) (.need (decide (0 ≤ p) && decide (p < (↑m : Int))) (.need (decide (0 + Int.toNat p < List.length (Pt.st T))) (.br (List.getD (Pt.fs T) x0 true) (.need i0 (.br (!decide (checkE j0 = 0)) m1 (.br (decide (0 < wr .i64 (p + 1))) (.need i0 (.br (decide (true = decide (classE j0 = 0))) u0 (.need w1 (.need m0 (.need (okI 100 (wr .i64 (c + 1)) && true) (.both (.all (Int) fun (y6 : Int) => (.imp (ckPoP T { s := wr .i64 j1, w := ⟨false, n, m, la, ep⟩, p := p, y := { f := true, par := 0, q := 0 } } y6) (.leaf (.normal, mkT 59 w0, [(0, some v1), (1, some v1), (2, some (.segs [⟨1, 1, [.int .i64 [y6]]⟩])), (3, some z0), (4, some (ckL))])))) (.all (Ce) fun (y6 : Ce) => (.imp (ckPoE T { s := wr .i64 j1, w := ⟨false, n, m, la, ep⟩, p := p, y := { f := true, par := 0, q := 0 } } y6) (.leaf (.ret, mkT 59 [], [(0, some (.segs [⟨1, 1, [.int .i64 [Ce.n y6]]⟩])), (1, some (.segs [⟨1, 1, [.int .i64 [Ce.e y6]]⟩])), (2, some (.segs [⟨1, 1, [.int .i64 [Ce.n y6]]⟩])), (3, some z0), (4, some (ckLd))])))))))))) (.need i0 (.br (decide (false = decide (classE j0 = 0))) u0 (.need w1 (.need m0 (.need (okI 100 (wr .i64 (c + 1)) && true) (.both (.all (Int) fun (y6 : Int) => (.imp (ckPoP T { s := wr .i64 j1, w := ⟨false, n, m, la, ep⟩, p := p, y := { f := true, par := 0, q := 0 } } y6) (.leaf (.normal, mkT 59 w0, [(0, some v1), (1, some v1), (2, some (.segs [⟨1, 1, [.int .i64 [y6]]⟩])), (3, some z0), (4, some (ckL))])))) (.all (Ce) fun (y6 : Ce) => (.imp (ckPoE T { s := wr .i64 j1, w := ⟨false, n, m, la, ep⟩, p := p, y := { f := true, par := 0, q := 0 } } y6) (.leaf (.ret, mkT 59 [], [(0, some (.segs [⟨1, 1, [.int .i64 [Ce.n y6]]⟩])), (1, some (.segs [⟨1, 1, [.int .i64 [Ce.e y6]]⟩])), (2, some (.segs [⟨1, 1, [.int .i64 [Ce.n y6]]⟩])), (3, some z0), (4, some (ckLd))]))))))))))))) (.need i0 (.br (!decide (checkE j0 = 0)) m1 (.br (decide (0 < wr .i64 (p + 1))) (.need i0 (.br (decide (true = decide (classE j0 = 0))) u0 (.need i1 (.need m0 (.need u1 (.both (.all (Int) fun (y6 : Int) => (.imp (ckPoP T { s := wr .i64 j1, w := ⟨false, n, m, la, ep⟩, p := p, y := { f := false, par := 0 + Int.toNat p, q := List.getD (Pt.ns T) x0 0 } } y6) (.leaf (.normal, mkT 59 w0, [(0, some v1), (1, some v1), (2, some (.segs [⟨1, 1, [.int .i64 [y6]]⟩])), (3, some z0), (4, some (ckL))])))) (.all (Ce) fun (y6 : Ce) => (.imp (ckPoE T { s := wr .i64 j1, w := ⟨false, n, m, la, ep⟩, p := p, y := { f := false, par := 0 + Int.toNat p, q := List.getD (Pt.ns T) x0 0 } } y6) (.leaf (.ret, mkT 59 [], [(0, some (.segs [⟨1, 1, [.int .i64 [Ce.n y6]]⟩])), (1, some (.segs [⟨1, 1, [.int .i64 [Ce.e y6]]⟩])), (2, some (.segs [⟨1, 1, [.int .i64 [Ce.n y6]]⟩])), (3, some z0), (4, some (ckLd))])))))))))) (.need i0 (.br (decide (false = decide (classE j0 = 0))) u0 (.need i1 (.need m0 (.need u1 (.both (.all (Int) fun (y6 : Int) => (.imp (ckPoP T { s := wr .i64 j1, w := ⟨false, n, m, la, ep⟩, p := p, y := { f := false, par := 0 + Int.toNat p, q := List.getD (Pt.ns T) x0 0 } } y6) (.leaf (.normal, mkT 59 w0, [(0, some v1), (1, some v1), (2, some (.segs [⟨1, 1, [.int .i64 [y6]]⟩])), (3, some z0), (4, some (ckL))])))) (.all (Ce) fun (y6 : Ce) => (.imp (ckPoE T { s := wr .i64 j1, w := ⟨false, n, m, la, ep⟩, p := p, y := { f := false, par := 0 + Int.toNat p, q := List.getD (Pt.ns T) x0 0 } } y6) (.leaf (.ret, mkT 59 [], [(0, some (.segs [⟨1, 1, [.int .i64 [Ce.n y6]]⟩])), (1, some (.segs [⟨1, 1, [.int .i64 [Ce.e y6]]⟩])), (2, some (.segs [⟨1, 1, [.int .i64 [Ce.n y6]]⟩])), (3, some z0), (4, some (ckLd))])))))))))))))))) (.leaf (.exit 2, mkT 59 [], [(0, some v1), (1, some v1), (2, some q0), (3, some z0), (4, some (ckL))])))) := by kernel_rfl
theorem ck_fnf (T : Pt) (n m : Nat) (la ep : Int) : ((callT Try.prog (tabP T) (W (tabP T) SO noL) (ckT T) 5 33 [ckY, ckP] ⟨hp 0 (ckC ⟨false, n, m, la, ep⟩ 0), 5, [], []⟩)).take 5 (.c (.n (.n (.n (.b (.a (.i (.c (.n (.n (.n (.b (.a (.i (.leaf [0, 1, 2, 3, 4] 0))) (.a (.i (.leaf [0, 1, 2, 3, 4] 0)))))))))) (.a (.i (.leaf [0, 1, 2, 3, 4] 0)))))))) =
(let i0 : Seg := ⟨1, 1, [.int .i64 [0]]⟩
let j0 := (planB false n m la ep)
(.need (rf n && true && (rf ((↑n : Int)) && true)) (.need (okBl [.segs [i0], .segs [i0], .segs [i0], planB false n m la ep, ckL] [.segs [i0], .segs [i0], .segs [i0], planB false n m la ep, ckL]) (.need (okW T ⟨false, n, m, la, ep⟩) (.both (.all (Int) fun (y1 : Int) => (.imp (ckPrP T { s := 0, w := ⟨false, n, m, la, ep⟩, p := 0, y := { f := true, par := 0, q := 0 } } y1) (.need (rf m && true && (rf ((↑m : Int)) && true)) (.need (okBl [.segs [i0], .segs [i0], .segs [⟨1, 1, [.int .i64 [y1]]⟩], planB false n m la ep, ckL] [.segs [i0], .segs [i0], .segs [⟨1, 1, [.int .i64 [y1]]⟩], planB false n m la ep, ckL]) (.need (okI 10 y1 && okW T ⟨false, n, m, la, ep⟩) (.both (.all (Int) fun (y3 : Int) => (.imp (ckStP T { s := y1, w := ⟨false, n, m, la, ep⟩, p := 0, y := { f := true, par := 0, q := 0 } } y3) (.leaf (.ret, mkT 1 [], [(0, some (.segs [i0])), (1, some (.segs [i0])), (2, some (.segs [⟨1, 1, [.int .i64 [y3]]⟩])), (3, some j0), (4, some (ckL))])))) (.all (Ce) fun (y3 : Ce) => (.imp (ckStE T { s := y1, w := ⟨false, n, m, la, ep⟩, p := 0, y := { f := true, par := 0, q := 0 } } y3) (.leaf (.ret, mkT 1 [], [(0, some (.segs [⟨1, 1, [.int .i64 [Ce.n y3]]⟩])), (1, some (.segs [⟨1, 1, [.int .i64 [Ce.e y3]]⟩])), (2, some (.segs [⟨1, 1, [.int .i64 [Ce.n y3]]⟩])), (3, some j0), (4, some (ckLd))])))))))))) (.all (Ce) fun (y1 : Ce) => (.imp (ckPrE T { s := 0, w := ⟨false, n, m, la, ep⟩, p := 0, y := { f := true, par := 0, q := 0 } } y1) (.leaf (.ret, mkT 1 [], [(0, some (.segs [⟨1, 1, [.int .i64 [Ce.n y1]]⟩])), (1, some (.segs [⟨1, 1, [.int .i64 [Ce.e y1]]⟩])), (2, some (.segs [⟨1, 1, [.int .i64 [Ce.n y1]]⟩])), (3, some j0), (4, some (ckLd))]))))))))) := by kernel_rfl
theorem checkf (T : Pt) (n m : Nat) (la ep : Int) : ((callT Try.prog (tabP T) (W (tabP T) (SC T) noL) (ckTR T) 0 7 [Pw.v ⟨false, n, m, la, ep⟩] ⟨hp 0 [], 0, [], []⟩)).take 0 (.c (.n (.n (.c (.x (.t (.leaf [] 1)) (.x (.leaf [] 1) (.x (.t (.leaf [] 1)) (.x (.leaf [] 1) (.c (.n (.n (.b (.a (.i (.leaf [] 1))) (.a (.i (.leaf [] 1))))))))))))))) =
(let i0 : TreeQ State := (.leaf (.ret, mkT 1 [(0, .tup [.int .i64 (-1), .int .i64 2])], []))
(.need (rf n && true && (rf m && true && (rf la && (rf ep && true))) && true && true) (.need (okW T ⟨false, n, m, la, ep⟩) (.br (decide (la < 0)) (.need (decide (la < 0)) i0) (.br (decide (1073741824 < la)) i0 (.br (decide (ep < 1)) (.need (decide (ep < 1)) i0) (.br (decide (1073741824 < ep)) i0 (.need (rf n && true && true && true && (rf m && true && true && true && (rf [la] && true && (rf [ep] && true && true))) && true) (.need (okW T ⟨false, n, m, la, ep⟩) (.both (.all (Int) fun (y5 : Int) => (.imp (ckAP T { e := false, n := n, m := m, la := List.getD [la] 0 0, ep := List.getD [ep] 0 0 } y5) (.leaf (.ret, mkT 1 [(0, .tup [.int .i64 (-1), .int .i64 0])], [])))) (.all (Ce) fun (y5 : Ce) => (.imp (ckAE T { e := false, n := n, m := m, la := List.getD [la] 0 0, ep := List.getD [ep] 0 0 } y5) (.leaf (.ret, mkT 1 [(0, .tup [.int .i64 (Ce.n y5), .int .i64 (Ce.e y5)])], [])))))))))))))) := by kernel_rfl
theorem longf (T : Pt) (n m : Nat) (la ep : Int) : ((callT Try.prog (tabP T) (W (tabP T) SO noL) (lgT T) 0 20 [Pw.v ⟨false, n, m, la, ep⟩] ⟨hp 0 [], 0, [], []⟩)).take 0 (.x (csQ 11 (.leaf [] 0)) (.c (.c (.c (.x (csQ 6 (.leaf [] 0)) (csQ 4 (.n (.n (.a (.i (.leaf [] 1))))))))))) =
(.br (decide (4 < (↑n : Int))) .dead (.br (decide ((↑m : Int) = 0)) .dead (.need (decide (decide (2 < (↑m : Int)) = false) && (rf m && true && (rf ((↑m : Int)) && true)) && true) (.need (decide (m = List.length (Pt.st T))) (.all (PUnit) fun (y2 : PUnit) => (.imp (True) (.leaf (.ret, mkT 1 [(0, .bool false)], [])))))))) := by kernel_rfl
theorem ck_pot (T : Pt) (m : Nat) (par q : Nat) (la ep p j c : Int) : ((W (tabP T) SO noL 33 (false :: pPo) false (codeOf 33 (false :: pPo)) (mkT 59 (insPo ckY m p ⟨false, par, q⟩ j))).full ⟨hp 0 (ckC ⟨true, 0, m, la, ep⟩ c), 5, [], []⟩ leafS).take 5 (.x (.n (.n (.c (.c (.n (.c (.x (.c (.leaf [0, 1, 2, 3, 4] 234881025)) (.x (.c (.c (.c (.n (.c (.c (.x (.c (.leaf [0, 1, 2, 3, 4] 234881025)) (.c (.leaf [0, 1, 2, 3, 4] 15393397669921))))))))) (cs 4 (.n (.c (.c (.x (.c (.leaf [0, 1, 2, 3, 4] 234881025)) (.c (.leaf [0, 1, 2, 3, 4] 15393397669921))))))))))))))) (.leaf [0, 1, 2, 3, 4] 234881025)) =
(let q0 := (Pt.po T par)
let x0 := (0 + Int.toNat j)
let i0 : Bool := (rf (List.getD (k4 q0) x0 0) && (rf (List.getD (a4 q0) x0 0) && (rf (List.getD (b4 q0) x0 0) && (rf (List.getD (g4 q0) x0 0) && true))) && true && true)
let i1 := (planB true 0 m la ep)
let z0 : Blk := (.segs [⟨1, 1, [.int .i64 [0]]⟩])
let j0 : Tree State := (.leaf (.normal, mkT 59 [(0, .yld 4), (5, .int .i64 p), (25, .slice (.ro 1 0 0 0) m none), (26, .int .i64 (↑m : Int)), (27, .int .i64 p), (41, .slice (.ro 2 par 0 0) q none), (42, .int .i64 (↑q : Int)), (43, .int .i64 (wr .i64 (j + 1)))], [(0, some z0), (1, some z0), (2, some (.segs [⟨1, 1, [.int .i64 [wr .i64 (c + 1)]]⟩])), (3, some i1), (4, some (ckL))]))
let m0 : O4 := { k := List.getD (k4 q0) x0 0, a := List.getD (a4 q0) x0 0, b := List.getD (b4 q0) x0 0, g := List.getD (g4 q0) x0 0 }
let w0 : Blk := (.segs [⟨1, 1, [.int .i64 [c]]⟩])
let v0 : List (Nat × AVal) := [(0, .yld 4), (25, .slice (.ro 1 0 0 0) m none), (26, .int .i64 (↑m : Int)), (27, .int .i64 p)]
let u0 : Tree State := (.leaf (.ret, mkT 59 v0, [(0, some w0), (1, some (.segs [⟨1, 1, [.int .i64 [14]]⟩])), (2, some w0), (3, some i1), (4, some (ckLd))]))
(.br (decide (j < (↑q : Int))) (.need (decide (0 ≤ j) && decide (j < (↑q : Int))) (.need (decide (0 + Int.toNat j < List.length q0)) (.need i0 (.br (!decide (checkE m0 = 0)) (.leaf (.ret, mkT 59 v0, [(0, some w0), (1, some (.segs [⟨1, 1, [.int .i64 [13]]⟩])), (2, some w0), (3, some i1), (4, some (ckLd))])) (.br (decide (0 < wr .i64 (p + 1))) (.need i0 (.br (decide (decide (wr .i64 (j + 1) = 0) = decide (classE m0 = 0))) u0 j0)) (.need i0 (.br (decide (false = decide (classE m0 = 0))) u0 j0))))))) (.leaf (.exit 4, mkT 59 v0, [(0, some z0), (1, some z0), (2, some w0), (3, some i1), (4, some (ckL))])))) := by kernel_rfl
theorem ck_pet (T : Pt) (m : Nat) (la ep p c : Int) : ((W (tabP T) SO noL 33 (false :: pPo) false (codeOf 33 (false :: pPo)) (mkT 59 (insPo ckY m p ⟨true, 0, 0⟩ 0))).full ⟨hp 0 (ckC ⟨true, 0, m, la, ep⟩ c), 5, [], []⟩ leafS).take 5 (.c (.leaf [0, 1, 2, 3, 4] 234881025)) =
(.leaf (.exit 4, mkT 59 [(0, .yld 4), (25, .slice (.ro 1 0 0 0) m none), (26, .int .i64 (↑m : Int)), (27, .int .i64 p)], [(0, some (.segs [⟨1, 1, [.int .i64 [0]]⟩])), (1, some (.segs [⟨1, 1, [.int .i64 [0]]⟩])), (2, some (.segs [⟨1, 1, [.int .i64 [c]]⟩])), (3, some (planB true 0 m la ep)), (4, some (ckL))])) := by kernel_rfl
theorem ck_stt (T : Pt) (m : Nat) (la ep p c : Int) : ((execT (W (tabP T) SO noL) (ckTPo T) 5 400 33 (false :: pSt) (codeOf 33 (false :: pSt)) (mkT 59 (insSt ckY m p)) ⟨hp 0 (ckC ⟨true, 0, m, la, ep⟩ c), 5, [], []⟩ leafQ)).take 5 (.x (.n (.n (.x (.c (.c (.n (.c (.x (.c (.leaf [0, 1, 2, 3, 4] 0)) (.x (.c (.c (.c (.n (.c (.c (.x (.c (.leaf [0, 1, 2, 3, 4] 0)) (.c (.c (.n (.n (.n (.b (.a (.i (.leaf [0, 1, 2, 3, 4] 234881025))) (.a (.i (.leaf [0, 1, 2, 3, 4] 0)))))))))))))))) (csQ 4 (.n (.c (.c (.x (.c (.leaf [0, 1, 2, 3, 4] 0)) (.c (.c (.n (.n (.n (.b (.a (.i (.leaf [0, 1, 2, 3, 4] 234881025))) (.a (.i (.leaf [0, 1, 2, 3, 4] 0)))))))))))))))))))) (.c (.c (.n (.c (.x (.c (.leaf [0, 1, 2, 3, 4] 0)) (.x (.c (.c (.c (.n (.c (.c (.x (.c (.leaf [0, 1, 2, 3, 4] 0)) (.c (.c (.n (.n (.n (.b (.a (.i (.leaf [0, 1, 2, 3, 4] 234881025))) (.a (.i (.leaf [0, 1, 2, 3, 4] 0)))))))))))))))) (csQ 4 (.n (.c (.c (.x (.c (.leaf [0, 1, 2, 3, 4] 0)) (.c (.c (.n (.n (.n (.b (.a (.i (.leaf [0, 1, 2, 3, 4] 234881025))) (.a (.i (.leaf [0, 1, 2, 3, 4] 0))))))))))))))))))))))) (.leaf [0, 1, 2, 3, 4] 0)) =
(let x0 := (0 + Int.toNat p)
let i0 : Bool := (rf (List.getD (k4 (Pt.st T)) x0 0) && (rf (List.getD (a4 (Pt.st T)) x0 0) && (rf (List.getD (b4 (Pt.st T)) x0 0) && (rf (List.getD (g4 (Pt.st T)) x0 0) && true))) && true && true)
let j0 : O4 := { k := List.getD (k4 (Pt.st T)) x0 0, a := List.getD (a4 (Pt.st T)) x0 0, b := List.getD (b4 (Pt.st T)) x0 0, g := List.getD (g4 (Pt.st T)) x0 0 }
let v0 : Seg := ⟨1, 1, [.int .i64 [0]]⟩
let m0 := (okBl [.segs [v0], .segs [v0], .segs [⟨1, 1, [.int .i64 [wr .i64 (c + 1)]]⟩], planB true 0 m la ep, ckL] [.segs [v0], .segs [v0], .segs [⟨1, 1, [.int .i64 [wr .i64 (c + 1)]]⟩], planB true 0 m la ep, ckL])
let q0 : Blk := (.segs [⟨1, 1, [.int .i64 [c]]⟩])
let z0 := (planB true 0 m la ep)
let u0 : TreeQ State := (.leaf (.ret, mkT 59 [], [(0, some q0), (1, some (.segs [⟨1, 1, [.int .i64 [14]]⟩])), (2, some q0), (3, some z0), (4, some (ckLd))]))
let w0 : List (Nat × AVal) := [(0, .yld 4), (25, .slice (.ro 1 0 0 0) m none), (26, .int .i64 (↑m : Int)), (27, .int .i64 (wr .i64 (p + 1)))]
let i1 : Bool := (rf p && (rf m && true && (rf ((↑m : Int)) && (rf p && (rf x0 && true && (rf (List.getD (Pt.ns T) x0 0) && true) && (rf ((↑(List.getD (Pt.ns T) x0 0) : Int)) && true))))))
let j1 := (List.getD [c] 0 0 + 1)
let m1 : TreeQ State := (.leaf (.ret, mkT 59 [], [(0, some q0), (1, some (.segs [⟨1, 1, [.int .i64 [13]]⟩])), (2, some q0), (3, some z0), (4, some (ckLd))]))
let u1 := (okI 100 (wr .i64 (c + 1)) && okQ T p { f := false, par := 0 + Int.toNat p, q := List.getD (Pt.ns T) x0 0 })
let v1 : Blk := (.segs [v0])
let w1 : Bool := (rf p && (rf m && true && (rf ((↑m : Int)) && (rf p && true))))
(.br (decide (p < (↑m : Int))) (.need (decide (0 ≤ p) && decide (p < (↑m : Int))) (.need (decide (0 + Int.toNat p < List.length (Pt.st T))) (.br (List.getD (Pt.fs T) x0 true) (.need i0 (.br (!decide (checkE j0 = 0)) m1 (.br (decide (0 < wr .i64 (p + 1))) (.need i0 (.br (decide (true = decide (classE j0 = 0))) u0 (.need w1 (.need m0 (.need (okI 100 (wr .i64 (c + 1)) && true) (.both (.all (Int) fun (y6 : Int) => (.imp (ckPoP T { s := wr .i64 j1, w := ⟨true, 0, m, la, ep⟩, p := p, y := { f := true, par := 0, q := 0 } } y6) (.leaf (.normal, mkT 59 w0, [(0, some v1), (1, some v1), (2, some (.segs [⟨1, 1, [.int .i64 [y6]]⟩])), (3, some z0), (4, some (ckL))])))) (.all (Ce) fun (y6 : Ce) => (.imp (ckPoE T { s := wr .i64 j1, w := ⟨true, 0, m, la, ep⟩, p := p, y := { f := true, par := 0, q := 0 } } y6) (.leaf (.ret, mkT 59 [], [(0, some (.segs [⟨1, 1, [.int .i64 [Ce.n y6]]⟩])), (1, some (.segs [⟨1, 1, [.int .i64 [Ce.e y6]]⟩])), (2, some (.segs [⟨1, 1, [.int .i64 [Ce.n y6]]⟩])), (3, some z0), (4, some (ckLd))])))))))))) (.need i0 (.br (decide (false = decide (classE j0 = 0))) u0 (.need w1 (.need m0 (.need (okI 100 (wr .i64 (c + 1)) && true) (.both (.all (Int) fun (y6 : Int) => (.imp (ckPoP T { s := wr .i64 j1, w := ⟨true, 0, m, la, ep⟩, p := p, y := { f := true, par := 0, q := 0 } } y6) (.leaf (.normal, mkT 59 w0, [(0, some v1), (1, some v1), (2, some (.segs [⟨1, 1, [.int .i64 [y6]]⟩])), (3, some z0), (4, some (ckL))])))) (.all (Ce) fun (y6 : Ce) => (.imp (ckPoE T { s := wr .i64 j1, w := ⟨true, 0, m, la, ep⟩, p := p, y := { f := true, par := 0, q := 0 } } y6) (.leaf (.ret, mkT 59 [], [(0, some (.segs [⟨1, 1, [.int .i64 [Ce.n y6]]⟩])), (1, some (.segs [⟨1, 1, [.int .i64 [Ce.e y6]]⟩])), (2, some (.segs [⟨1, 1, [.int .i64 [Ce.n y6]]⟩])), (3, some z0), (4, some (ckLd))]))))))))))))) (.need i0 (.br (!decide (checkE j0 = 0)) m1 (.br (decide (0 < wr .i64 (p + 1))) (.need i0 (.br (decide (true = decide (classE j0 = 0))) u0 (.need i1 (.need m0 (.need u1 (.both (.all (Int) fun (y6 : Int) => (.imp (ckPoP T { s := wr .i64 j1, w := ⟨true, 0, m, la, ep⟩, p := p, y := { f := false, par := 0 + Int.toNat p, q := List.getD (Pt.ns T) x0 0 } } y6) (.leaf (.normal, mkT 59 w0, [(0, some v1), (1, some v1), (2, some (.segs [⟨1, 1, [.int .i64 [y6]]⟩])), (3, some z0), (4, some (ckL))])))) (.all (Ce) fun (y6 : Ce) => (.imp (ckPoE T { s := wr .i64 j1, w := ⟨true, 0, m, la, ep⟩, p := p, y := { f := false, par := 0 + Int.toNat p, q := List.getD (Pt.ns T) x0 0 } } y6) (.leaf (.ret, mkT 59 [], [(0, some (.segs [⟨1, 1, [.int .i64 [Ce.n y6]]⟩])), (1, some (.segs [⟨1, 1, [.int .i64 [Ce.e y6]]⟩])), (2, some (.segs [⟨1, 1, [.int .i64 [Ce.n y6]]⟩])), (3, some z0), (4, some (ckLd))])))))))))) (.need i0 (.br (decide (false = decide (classE j0 = 0))) u0 (.need i1 (.need m0 (.need u1 (.both (.all (Int) fun (y6 : Int) => (.imp (ckPoP T { s := wr .i64 j1, w := ⟨true, 0, m, la, ep⟩, p := p, y := { f := false, par := 0 + Int.toNat p, q := List.getD (Pt.ns T) x0 0 } } y6) (.leaf (.normal, mkT 59 w0, [(0, some v1), (1, some v1), (2, some (.segs [⟨1, 1, [.int .i64 [y6]]⟩])), (3, some z0), (4, some (ckL))])))) (.all (Ce) fun (y6 : Ce) => (.imp (ckPoE T { s := wr .i64 j1, w := ⟨true, 0, m, la, ep⟩, p := p, y := { f := false, par := 0 + Int.toNat p, q := List.getD (Pt.ns T) x0 0 } } y6) (.leaf (.ret, mkT 59 [], [(0, some (.segs [⟨1, 1, [.int .i64 [Ce.n y6]]⟩])), (1, some (.segs [⟨1, 1, [.int .i64 [Ce.e y6]]⟩])), (2, some (.segs [⟨1, 1, [.int .i64 [Ce.n y6]]⟩])), (3, some z0), (4, some (ckLd))])))))))))))))))) (.leaf (.exit 2, mkT 59 [], [(0, some v1), (1, some v1), (2, some q0), (3, some z0), (4, some (ckL))])))) := by kernel_rfl
theorem ck_fnt (T : Pt) (m : Nat) (la ep : Int) : ((callT Try.prog (tabP T) (W (tabP T) SO noL) (ckT T) 5 33 [ckY, ckP] ⟨hp 0 (ckC ⟨true, 0, m, la, ep⟩ 0), 5, [], []⟩)).take 5 (.c (.c (.n (.n (.b (.a (.i (.c (.n (.n (.n (.b (.a (.i (.leaf [0, 1, 2, 3, 4] 0))) (.a (.i (.leaf [0, 1, 2, 3, 4] 0)))))))))) (.a (.i (.leaf [0, 1, 2, 3, 4] 0)))))))) =
(let i0 : Seg := ⟨1, 1, [.int .i64 [0]]⟩
(.need (okBl [.segs [i0], .segs [i0], .segs [i0], planB true 0 m la ep, ckL] [.segs [i0], .segs [i0], .segs [i0], planB true 0 m la ep, ckL]) (.need (okW T ⟨true, 0, m, la, ep⟩) (.both (.all (Int) fun (y1 : Int) => (.imp (ckPrP T { s := 0, w := ⟨true, 0, m, la, ep⟩, p := 0, y := { f := true, par := 0, q := 0 } } y1) (.need (rf m && true && (rf ((↑m : Int)) && true)) (.need (okBl [.segs [i0], .segs [i0], .segs [⟨1, 1, [.int .i64 [y1]]⟩], planB true 0 m la ep, ckL] [.segs [i0], .segs [i0], .segs [⟨1, 1, [.int .i64 [y1]]⟩], planB true 0 m la ep, ckL]) (.need (okI 10 y1 && okW T ⟨true, 0, m, la, ep⟩) (.both (.all (Int) fun (y3 : Int) => (.imp (ckStP T { s := y1, w := ⟨true, 0, m, la, ep⟩, p := 0, y := { f := true, par := 0, q := 0 } } y3) (.leaf (.ret, mkT 1 [], [(0, some (.segs [i0])), (1, some (.segs [i0])), (2, some (.segs [⟨1, 1, [.int .i64 [y3]]⟩])), (3, some (planB true 0 m la ep)), (4, some (ckL))])))) (.all (Ce) fun (y3 : Ce) => (.imp (ckStE T { s := y1, w := ⟨true, 0, m, la, ep⟩, p := 0, y := { f := true, par := 0, q := 0 } } y3) (.leaf (.ret, mkT 1 [], [(0, some (.segs [⟨1, 1, [.int .i64 [Ce.n y3]]⟩])), (1, some (.segs [⟨1, 1, [.int .i64 [Ce.e y3]]⟩])), (2, some (.segs [⟨1, 1, [.int .i64 [Ce.n y3]]⟩])), (3, some (planB true 0 m la ep)), (4, some (ckLd))])))))))))) (.all (Ce) fun (y1 : Ce) => (.imp (ckPrE T { s := 0, w := ⟨true, 0, m, la, ep⟩, p := 0, y := { f := true, par := 0, q := 0 } } y1) (.leaf (.ret, mkT 1 [], [(0, some (.segs [⟨1, 1, [.int .i64 [Ce.n y1]]⟩])), (1, some (.segs [⟨1, 1, [.int .i64 [Ce.e y1]]⟩])), (2, some (.segs [⟨1, 1, [.int .i64 [Ce.n y1]]⟩])), (3, some (planB true 0 m la ep)), (4, some (ckLd))])))))))) := by kernel_rfl
theorem checkt (T : Pt) (m : Nat) (la ep : Int) : ((callT Try.prog (tabP T) (W (tabP T) (SC T) noL) (ckTR T) 0 7 [Pw.v ⟨true, 0, m, la, ep⟩] ⟨hp 0 [], 0, [], []⟩)).take 0 (.c (.n (.n (.c (.x (.t (.leaf [] 1)) (.x (.leaf [] 1) (.x (.t (.leaf [] 1)) (.x (.leaf [] 1) (.c (.n (.n (.b (.a (.i (.leaf [] 1))) (.a (.i (.leaf [] 1))))))))))))))) =
(let i0 : TreeQ State := (.leaf (.ret, mkT 1 [(0, .tup [.int .i64 (-1), .int .i64 2])], []))
(.need (rf m && true && (rf la && (rf ep && true)) && true && true) (.need (okW T ⟨true, 0, m, la, ep⟩) (.br (decide (la < 0)) (.need (decide (la < 0)) i0) (.br (decide (1073741824 < la)) i0 (.br (decide (ep < 1)) (.need (decide (ep < 1)) i0) (.br (decide (1073741824 < ep)) i0 (.need (rf m && true && true && true && (rf [la] && true && (rf [ep] && true && true)) && true) (.need (okW T ⟨true, 0, m, la, ep⟩) (.both (.all (Int) fun (y5 : Int) => (.imp (ckAP T { e := true, n := 0, m := m, la := List.getD [la] 0 0, ep := List.getD [ep] 0 0 } y5) (.leaf (.ret, mkT 1 [(0, .tup [.int .i64 (-1), .int .i64 0])], [])))) (.all (Ce) fun (y5 : Ce) => (.imp (ckAE T { e := true, n := 0, m := m, la := List.getD [la] 0 0, ep := List.getD [ep] 0 0 } y5) (.leaf (.ret, mkT 1 [(0, .tup [.int .i64 (Ce.n y5), .int .i64 (Ce.e y5)])], [])))))))))))))) := by kernel_rfl
theorem longt (T : Pt) (m : Nat) (la ep : Int) : ((callT Try.prog (tabP T) (W (tabP T) SO noL) (lgT T) 0 20 [Pw.v ⟨true, 0, m, la, ep⟩] ⟨hp 0 [], 0, [], []⟩)).take 0 (csQ 4 (.x (csQ 6 (.leaf [] 0)) (csQ 4 (.n (.n (.a (.i (.leaf [] 1)))))))) =
(.br (decide ((↑m : Int) = 0)) .dead (.need (decide (decide (2 < (↑m : Int)) = false) && (rf m && true && (rf ((↑m : Int)) && true)) && true) (.need (decide (m = List.length (Pt.st T))) (.all (PUnit) fun (y1 : PUnit) => (.imp (True) (.leaf (.ret, mkT 1 [(0, .bool false)], []))))))) := by kernel_rfl
theorem lg_round (T : Pt) (m : Nat) (p : Int) : ((W (tabP T) SO noL 20 (false :: pLg) false (codeOf 20 (false :: pLg)) (mkT 38 (insLg m p))).full ⟨hp 0 [], 0, [], []⟩ leafS).take 0 (.x (.n (.n (.x (cs 4 (.leaf [] 58720264)) (cs 4 (.leaf [] 58720264))))) (.leaf [] 8)) =
(.br (decide (p < (↑m : Int))) (.need (decide (0 ≤ p) && decide (p < (↑m : Int))) (.need (decide (0 + Int.toNat p < List.length (Pt.st T))) (.br (List.getD (Pt.fs T) (0 + Int.toNat p) true) (.leaf (.normal, mkT 38 [(3, .bool false), (23, .slice (.ro 1 0 0 0) m none), (24, .int .i64 (↑m : Int)), (25, .int .i64 (wr .i64 (p + 1)))], [])) (.leaf (.normal, mkT 38 [(3, .bool (decide (4 < (↑(List.getD (Pt.ns T) (0 + Int.toNat p) 0) : Int)))), (23, .slice (.ro 1 0 0 0) m none), (24, .int .i64 (↑m : Int)), (25, .int .i64 (wr .i64 (p + 1)))], []))))) (.leaf (.exit 0, mkT 38 [(3, .bool false)], []))) := by kernel_rfl
end Go.Proofs.Ytompijagcjjamaa

namespace Go.Proofs.Ytompijagcjjamaa
open Ab
def PostQ {σ : Type} (C : σ → List Blk) (ro : List (Nat × AVal)) (ex : AExit) (outs : List (Nat × AVal)) (r : Res σ) (y : State) : Prop := match r with
  | .on s => y = (ex, mkT 59 outs, hp 0 (C s))
  | .off B => y = (.ret, mkT 59 ro, hp 0 B)
theorem iter_loopQ {E : Nat → Nat → Seg} {ra : Nat → Nat → Nat × Nat} {base k : Nat} {c : Code} {σ α : Type} {C : σ → List Blk} {step : σ → α → Res σ} {ins : Nat → List (Nat × AVal)} {outs ro : List (Nat × AVal)} {ex : Nat} {inv : Nat → σ → Prop} (L : List α)
    (hr : ∀ i a s, L[i]? = some a → inv i s → Takes Try.prog E ra base k c (mkT 59 (ins i)) (hp 0 (C s)) fun y => PostQ C ro .normal (ins (i + 1)) (step s a) y)
    (hi : ∀ i a s s', L[i]? = some a → inv i s → step s a = .on s' → inv (i + 1) s')
    (he : ∀ s, inv L.length s → Takes Try.prog E ra base k c (mkT 59 (ins L.length)) (hp 0 (C s)) fun y => y = (.exit ex, mkT 59 outs, hp 0 (C s))) {s : σ} (h0 : inv 0 s) :
    Takes Try.prog E ra base k (.loop c) (mkT 59 (ins 0)) (hp 0 (C s)) fun y => PostQ C ro (.exit ex) outs (runS step L s) y := by
  refine takes_loop (fun j ts h => ∃ i l s', j = l.length + 1 ∧ L.drop i = l ∧ i + l.length = L.length ∧ inv i s' ∧ ts = mkT 59 (ins i) ∧ h = hp 0 (C s') ∧ runS step l s' = runS step L s) ?_ ?_ (j := L.length + 1) ⟨0, L, s, rfl, rfl, Nat.zero_add _, h0, rfl, rfl, rfl⟩
  · rintro ts h ⟨i, l, s', h1, _⟩
    omega
  · rintro j ts h ⟨i, l, s', h1, h2, h3, h4, rfl, rfl, h5⟩
    cases l with
    | nil =>
      have hi' : i = L.length := by simpa using h3
      subst hi'
      refine (he s' h4).mono ?_
      rintro y rfl
      show PostQ C ro (.exit ex) outs (runS step L s) _
      rw [← h5]; rfl
    | cons a l =>
      have hat : L[i]? = some a := by
        have := congrArg List.head? h2
        simpa [List.head?_drop] using this
      refine (hr i a s' hat h4).mono fun y hy => ?_
      cases hs : step s' a with
      | on s'' =>
        rw [hs] at hy
        simp only [PostQ] at hy
        subst hy
        refine ⟨i + 1, l, s'', by simpa using h1, ?_, by simp only [List.length_cons] at h3; omega, hi i a s' s'' hat h4 hs, rfl, rfl, ?_⟩
        · have := congrArg List.tail h2
          simpa [List.tail_drop] using this
        · rw [← h5]; simp only [runS, hs]
      | off B =>
        rw [hs] at hy
        simp only [PostQ] at hy
        subst hy
        show PostQ C ro (.exit ex) outs (runS step L s) _
        rw [← h5]
        simp only [runS, hs, PostQ]
theorem o4_eta (x : O4) : (⟨x.k, x.a, x.b, x.g⟩ : O4) = x := rfl
theorem okI_iff {m : Nat} {s : Int} : okI m s = true ↔ 0 ≤ s ∧ s ≤ m := by simp only [okI, Bool.and_eq_true, decide_eq_true_eq]
theorem st_step {σ : Type} {T : Pt} {step : σ → Nd → Res σ} {p : Nat} {s s1 : σ} {y : Pq} {P : Int} {r : Res σ} (hop : step s ⟨(p : Int) + 1, 0, T.st.getD p z4⟩ = .on s1) (hP : P = p) (hy : poL T y = T.po p) (hs : runS step (itemsAt (P + 1) 1 (poL T y)) s1 = r) : stStep step T.po s (p, T.st.getD p z4) = r := by
  subst hP
  simp only [stStep, hop]
  rw [hy] at hs
  exact hs
theorem st_off {σ : Type} {T : Pt} {step : σ → Nd → Res σ} {p : Nat} {s : σ} {B : List Blk} (hop : step s ⟨(p : Int) + 1, 0, T.st.getD p z4⟩ = .off B) : stStep step T.po s (p, T.st.getD p z4) = .off B := by
  simp only [stStep, hop]
theorem nd13 {a : Nd} (h : ¬ checkE a.x = 0) : ndErr a = 13 := by simp only [ndErr, decide_eq_false h]
theorem nd14 {a : Nd} {b : Bool} (h : checkE a.x = 0) (h2 : (decide (0 < a.s) && decide (a.i = 0)) = b) (h3 : decide (classE a.x = 0) = b) : ndErr a = 14 := by
  simp only [ndErr, decide_eq_true h, h2, h3, decide_true]
theorem nd0 {a : Nd} {b : Bool} (h : checkE a.x = 0) (h2 : (decide (0 < a.s) && decide (a.i = 0)) = b) (h3 : decide (classE a.x = 0) = !b) : ndErr a = 0 := by
  cases b <;> simp [ndErr, decide_eq_true h, h2, h3]
theorem ck_off {w : Pw} {n : Int} {a : Nd} {e : Int} (h : ndErr a = e) (he : ¬ e = 0) : ckStep w n a = .off (ckE w ⟨n, e⟩) := by
  subst h; simp only [ckStep, decide_eq_false he]
theorem ck_on {w : Pw} {n : Int} {a : Nd} (h : ndErr a = 0) : ckStep w n a = .on (n + 1) := by
  simp only [ckStep, decide_eq_true h]
theorem sg_off {w : Pw} {a : Nd} : sgStep w 0 a = .off (sgE w a.s) := rfl
theorem sg_on {w : Pw} {n : Int} {a : Nd} (h : ¬ n = 0) : sgStep w n a = .on (n - 1) := by simp only [sgStep, decide_eq_false h]
theorem wPO (T : Pt) {ra : Nat → Nat → Nat × Nat} {base : Nat} : ExecOK Try.prog (tabP T) ra base (W (tabP T) SO noL) := W_ok (SO_ok (tabP_plain T)) noL_ok
section
variable {ra : Nat → Nat → Nat × Nat} {base : Nat}
theorem sg_pre0 {T : Pt} (h : T.Ok) {w : Pw} (hw : okW T w = true) {i : Nat} {a : Nd} {c : Int} (ha : (itemsAt 0 0 T.pre)[i]? = some a) (hs : 0 ≤ c ∧ c ≤ 1000) :
    Takes Try.prog (tabP T) ra base 4 (codeOf 33 (false :: pPre)) (mkT 59 (insPre sgY sgP w (i : Int))) (hp 0 (sgC w c)) fun y => PostQ (sgC w) [(0, sgY), (1, sgP)] .normal (insPre sgY sgP w ((i + 1 : Nat) : Int)) (sgStep w c a) y := by
  obtain ⟨hi, rfl⟩ := itemsAt_get 0 T.pre 0 i a ha
  obtain ⟨he, hn, hm⟩ := okW_iff.1 hw
  obtain ⟨e, n, m, la, ep⟩ := w
  obtain ⟨hc0, hc1⟩ := hs
  simp only at he hn hm
  have he' : e = false := by
    cases e with
    | false => rfl
    | true => have := h.e he.symm; rw [this] at hi; simp at hi
  subst he'
  have hp4 := h.pre
  have hwr : wr .i64 ((i : Int) + 1) = ((i + 1 : Nat) : Int) := by rw [wr_in ⟨by omega, by omega⟩]; omega
  have hwc : wr .i64 (c - 1) = c - 1 := wr_in ⟨by omega, by omega⟩
  have hin : (i : Int) < (n : Int) := by omega
  have e1 := k4_get hi
  have e2 := a4_get hi
  have e3 := b4_get hi
  have e4 := g4_get hi
  by_cases hc : c = 0
  · subst hc
    have hst : sgStep ⟨false, n, m, la, ep⟩ 0 ⟨0, ((0 + i : Nat) : Int), T.pre.getD i z4⟩ = .off (sgE ⟨false, n, m, la, ep⟩ 0) := sg_off
    rw [hst]
    refine takes_of_tree (tabP_plain T) (wP T) (.inr (by kernel_rfl)) (hp_below _) (sg_pre T n m la ep i 0) ?_
    simp only [Tree.holds, rf_eq, hin, hi, hwr, hwc, e1, e2, e3, e4, o4_eta, decide_true, decide_false, Bool.not_false, Bool.not_true, Int.toNat_natCast, Nat.zero_add, Bool.and_self, Bool.and_true, Bool.true_and, true_and, Bool.and_eq_true, decide_eq_true_eq, true_implies, Bool.true_eq_false, Bool.false_eq_true, false_implies, and_true, List.getD_cons_zero, not_false_eq_true, not_true_eq_false]
    repeat' (first | apply And.intro | exact rfl | exact Nat.le_refl _ | omega | intro _)
  · have hst : sgStep ⟨false, n, m, la, ep⟩ c ⟨0, ((0 + i : Nat) : Int), T.pre.getD i z4⟩ = .on (c - 1) := sg_on hc
    rw [hst]
    refine takes_of_tree (tabP_plain T) (wP T) (.inr (by kernel_rfl)) (hp_below _) (sg_pre T n m la ep i c) ?_
    simp only [Tree.holds, rf_eq, hin, hi, hwr, hwc, e1, e2, e3, e4, o4_eta, hc, decide_true, decide_false, Bool.not_false, Bool.not_true, Int.toNat_natCast, Nat.zero_add, Bool.and_self, Bool.and_true, Bool.true_and, true_and, Bool.and_eq_true, decide_eq_true_eq, true_implies, Bool.true_eq_false, Bool.false_eq_true, false_implies, and_true, List.getD_cons_zero, not_false_eq_true, not_true_eq_false]
    repeat' (first | apply And.intro | exact rfl | exact Nat.le_refl _ | omega | intro _)
theorem sg_pre_end {T : Pt} (h : T.Ok) {w : Pw} (hw : okW T w = true) {c : Int} :
    Takes Try.prog (tabP T) ra base 4 (codeOf 33 (false :: pPre)) (mkT 59 (insPre sgY sgP w (T.pre.length : Int))) (hp 0 (sgC w c)) fun y => y = (.exit 0, mkT 59 [(0, sgY), (1, sgP)], hp 0 (sgC w c)) := by
  obtain ⟨he, hn, hm⟩ := okW_iff.1 hw
  obtain ⟨e, n, m, la, ep⟩ := w
  simp only at he hn hm
  cases e with
  | true =>
    have hn0 : n = 0 := by rw [hn, h.e he.symm]; rfl
    have hp0 : T.pre.length = 0 := by rw [h.e he.symm]; rfl
    subst hn0
    rw [hp0]
    refine takes_of_tree (tabP_plain T) (wP T) (.inr (by kernel_rfl)) (hp_below _) (sg_pree T m la ep c) ?_
    simp only [Tree.holds]
    rfl
  | false =>
    have hn' : ¬ ((T.pre.length : Int) < (n : Int)) := by omega
    refine takes_of_tree (tabP_plain T) (wP T) (.inr (by kernel_rfl)) (hp_below _) (sg_pre T n m la ep (T.pre.length : Int) c) ?_
    simp only [Tree.holds, rf_eq, hn', decide_false, Bool.false_eq_true, false_implies, true_and, true_implies]
    rfl
theorem sg_po {T : Pt} (h : T.Ok) {w : Pw} {p : Int} {y : Pq} (hq : okQ T p y = true) {i : Nat} {a : Nd} {c : Int} (ha : (itemsAt (p + 1) 1 (poL T y))[i]? = some a) (hs : 0 ≤ c ∧ c ≤ 1000) :
    Takes Try.prog (tabP T) ra base 4 (codeOf 33 (false :: pPo)) (mkT 59 (insPo sgY w.m p y (i : Int))) (hp 0 (sgC w c)) fun v => PostQ (sgC w) (outPo sgY w.m p) .normal (insPo sgY w.m p y ((i + 1 : Nat) : Int)) (sgStep w c a) v := by
  obtain ⟨hi, rfl⟩ := itemsAt_get _ _ _ i a ha
  obtain ⟨hq1, hq2⟩ := okQ_iff.1 hq
  obtain ⟨f, par, q⟩ := y
  obtain ⟨hc0, hc1⟩ := hs
  cases f with
  | true => exact absurd hi (Nat.not_lt_zero _)
  | false =>
    obtain ⟨hq2, hq3⟩ := hq2 rfl
    simp only at hq2 hq3
    subst hq2
    simp only [poL] at hi hq1
    have hp4 := h.po par
    have hwr : wr .i64 ((i : Int) + 1) = ((i + 1 : Nat) : Int) := by rw [wr_in ⟨by omega, by omega⟩]; omega
    have hwc : wr .i64 (c - 1) = c - 1 := wr_in ⟨by omega, by omega⟩
    have hwp : wr .i64 ((par : Int) + 1) = (par : Int) + 1 := wr_in ⟨by omega, by omega⟩
    have hs0 : (0 : Int) < (par : Int) + 1 := by omega
    have hi0 : ¬ (((1 + i : Nat) : Int) = 0) := by omega
    have hi1 : ¬ (((i + 1 : Nat) : Int) = 0) := by omega
    have hin : (i : Int) < (q : Int) := by omega
    have e1 := k4_get hi
    have e2 := a4_get hi
    have e3 := b4_get hi
    have e4 := g4_get hi
    obtain ⟨e, n, m, la, ep⟩ := w
    show Takes _ _ _ _ _ _ _ _ fun v => PostQ _ _ _ _ (sgStep ⟨e, n, m, la, ep⟩ c ⟨(par : Int) + 1, ((1 + i : Nat) : Int), (T.po par).getD i z4⟩) v
    by_cases hc : c = 0
    · subst hc
      have hst : sgStep ⟨e, n, m, la, ep⟩ 0 ⟨(par : Int) + 1, ((1 + i : Nat) : Int), (T.po par).getD i z4⟩ = .off (sgE ⟨e, n, m, la, ep⟩ ((par : Int) + 1)) := sg_off
      rw [hst]
      cases e with
      | false =>
        refine takes_of_tree (tabP_plain T) (wP T) (.inr (by kernel_rfl)) (hp_below _) (sg_pof T n m par q la ep par i 0) ?_
        simp only [Tree.holds, rf_eq, hin, hi, hwr, hwc, hwp, hs0, hi1, e1, e2, e3, e4, o4_eta, decide_true, decide_false, Bool.not_false, Bool.not_true, Int.toNat_natCast, Nat.zero_add, Bool.and_self, Bool.and_true, Bool.true_and, true_and, Bool.and_eq_true, decide_eq_true_eq, true_implies, Bool.true_eq_false, Bool.false_eq_true, false_implies, and_true, List.getD_cons_zero, not_false_eq_true, not_true_eq_false]
        repeat' (first | apply And.intro | exact rfl | exact Nat.le_refl _ | omega | intro _)
      | true =>
        refine takes_of_tree (tabP_plain T) (wP T) (.inr (by kernel_rfl)) (hp_below _) (sg_pot T m par q la ep par i 0) ?_
        simp only [Tree.holds, rf_eq, hin, hi, hwr, hwc, hwp, hs0, hi1, e1, e2, e3, e4, o4_eta, decide_true, decide_false, Bool.not_false, Bool.not_true, Int.toNat_natCast, Nat.zero_add, Bool.and_self, Bool.and_true, Bool.true_and, true_and, Bool.and_eq_true, decide_eq_true_eq, true_implies, Bool.true_eq_false, Bool.false_eq_true, false_implies, and_true, List.getD_cons_zero, not_false_eq_true, not_true_eq_false]
        repeat' (first | apply And.intro | exact rfl | exact Nat.le_refl _ | omega | intro _)
    · have hst : sgStep ⟨e, n, m, la, ep⟩ c ⟨(par : Int) + 1, ((1 + i : Nat) : Int), (T.po par).getD i z4⟩ = .on (c - 1) := sg_on hc
      rw [hst]
      cases e with
      | false =>
        refine takes_of_tree (tabP_plain T) (wP T) (.inr (by kernel_rfl)) (hp_below _) (sg_pof T n m par q la ep par i c) ?_
        simp only [Tree.holds, rf_eq, hin, hi, hwr, hwc, hwp, hs0, hi1, e1, e2, e3, e4, o4_eta, hc, decide_true, decide_false, Bool.not_false, Bool.not_true, Int.toNat_natCast, Nat.zero_add, Bool.and_self, Bool.and_true, Bool.true_and, true_and, Bool.and_eq_true, decide_eq_true_eq, true_implies, Bool.true_eq_false, Bool.false_eq_true, false_implies, and_true, List.getD_cons_zero, not_false_eq_true, not_true_eq_false]
        repeat' (first | apply And.intro | exact rfl | exact Nat.le_refl _ | omega | intro _)
      | true =>
        refine takes_of_tree (tabP_plain T) (wP T) (.inr (by kernel_rfl)) (hp_below _) (sg_pot T m par q la ep par i c) ?_
        simp only [Tree.holds, rf_eq, hin, hi, hwr, hwc, hwp, hs0, hi1, e1, e2, e3, e4, o4_eta, hc, decide_true, decide_false, Bool.not_false, Bool.not_true, Int.toNat_natCast, Nat.zero_add, Bool.and_self, Bool.and_true, Bool.true_and, true_and, Bool.and_eq_true, decide_eq_true_eq, true_implies, Bool.true_eq_false, Bool.false_eq_true, false_implies, and_true, List.getD_cons_zero, not_false_eq_true, not_true_eq_false]
        repeat' (first | apply And.intro | exact rfl | exact Nat.le_refl _ | omega | intro _)
theorem sg_po_end {T : Pt} {w : Pw} {p : Int} {y : Pq} (hq : okQ T p y = true) {c : Int} :
    Takes Try.prog (tabP T) ra base 4 (codeOf 33 (false :: pPo)) (mkT 59 (insPo sgY w.m p y ((poL T y).length : Int))) (hp 0 (sgC w c)) fun v => v = (.exit 4, mkT 59 (outPo sgY w.m p), hp 0 (sgC w c)) := by
  obtain ⟨hq1, _⟩ := okQ_iff.1 hq
  obtain ⟨f, par, q⟩ := y
  obtain ⟨e, n, m, la, ep⟩ := w
  simp only at hq1
  have hn : ¬ (((poL T ⟨f, par, q⟩).length : Int) < (q : Int)) := by
    rw [hq1]; exact Int.lt_irrefl _
  cases f with
  | true =>
    have hq0 : q = 0 := hq1
    subst hq0
    cases e with
    | false =>
      refine takes_of_tree (tabP_plain T) (wP T) (.inr (by kernel_rfl)) (hp_below _) (sg_pef T n m la ep p c) ?_
      simp only [Tree.holds]
      rfl
    | true =>
      refine takes_of_tree (tabP_plain T) (wP T) (.inr (by kernel_rfl)) (hp_below _) (sg_pet T m la ep p c) ?_
      simp only [Tree.holds]
      rfl
  | false =>
    cases e with
    | false =>
      refine takes_of_tree (tabP_plain T) (wP T) (.inr (by kernel_rfl)) (hp_below _) (sg_pof T n m par q la ep p ((poL T ⟨false, par, q⟩).length : Int) c) ?_
      simp only [Tree.holds, rf_eq, hn, decide_false, Bool.false_eq_true, false_implies, true_and, true_implies]
      rfl
    | true =>
      refine takes_of_tree (tabP_plain T) (wP T) (.inr (by kernel_rfl)) (hp_below _) (sg_pot T m par q la ep p ((poL T ⟨false, par, q⟩).length : Int) c) ?_
      simp only [Tree.holds, rf_eq, hn, decide_false, Bool.false_eq_true, false_implies, true_and, true_implies]
      rfl
theorem ck_pre0 {T : Pt} (h : T.Ok) {w : Pw} (hw : okW T w = true) {i : Nat} {a : Nd} {c : Int} (ha : (itemsAt 0 0 T.pre)[i]? = some a) (hs : 0 ≤ c ∧ c ≤ 1000) :
    Takes Try.prog (tabP T) ra base 5 (codeOf 33 (false :: pPre)) (mkT 59 (insPre ckY ckP w (i : Int))) (hp 0 (ckC w c)) fun y => PostQ (ckC w) [(0, ckY), (1, ckP)] .normal (insPre ckY ckP w ((i + 1 : Nat) : Int)) (ckStep w c a) y := by
  obtain ⟨hi, rfl⟩ := itemsAt_get 0 T.pre 0 i a ha
  obtain ⟨he, hn, hm⟩ := okW_iff.1 hw
  obtain ⟨e, n, m, la, ep⟩ := w
  obtain ⟨hc0, hc1⟩ := hs
  simp only at he hn hm
  have he' : e = false := by
    cases e with
    | false => rfl
    | true => have := h.e he.symm; rw [this] at hi; simp at hi
  subst he'
  have hp4 := h.pre
  have hwr : wr .i64 ((i : Int) + 1) = ((i + 1 : Nat) : Int) := by rw [wr_in ⟨by omega, by omega⟩]; omega
  have hwc : wr .i64 (c + 1) = c + 1 := wr_in ⟨by omega, by omega⟩
  have hin : (i : Int) < (n : Int) := by omega
  have e1 := k4_get hi
  have e2 := a4_get hi
  have e3 := b4_get hi
  have e4 := g4_get hi
  have hhd : (decide (0 < Nd.s ⟨0, ((0 + i : Nat) : Int), T.pre.getD i z4⟩) && decide (Nd.i ⟨0, ((0 + i : Nat) : Int), T.pre.getD i z4⟩ = 0)) = false := by simp
  by_cases h1 : checkE (T.pre.getD i z4) = 0
  · have d1 : decide (checkE (T.pre.getD i z4) = 0) = true := decide_eq_true h1
    by_cases h2 : decide (classE (T.pre.getD i z4) = 0) = false
    · have hst : ckStep ⟨false, n, m, la, ep⟩ c ⟨0, ((0 + i : Nat) : Int), T.pre.getD i z4⟩ = .off (ckE ⟨false, n, m, la, ep⟩ ⟨c, 14⟩) := ck_off (nd14 h1 hhd h2) (by decide)
      rw [hst]
      refine takes_of_tree (tabP_plain T) (wPO T) (.inr (by kernel_rfl)) (hp_below _) (ck_pre T n m la ep i c) ?_
      simp only [Tree.holds, rf_eq, hin, hi, hwr, hwc, e1, e2, e3, e4, o4_eta, d1, h2, decide_true, decide_false, Bool.not_false, Bool.not_true, Int.toNat_natCast, Nat.zero_add, Bool.and_self, Bool.and_true, Bool.true_and, true_and, Bool.and_eq_true, decide_eq_true_eq, true_implies, Bool.true_eq_false, Bool.false_eq_true, false_implies, and_true, List.getD_cons_zero, not_false_eq_true, not_true_eq_false]
      repeat' (first | apply And.intro | exact rfl | exact Nat.le_refl _ | omega | intro _)
    · have h3 : decide (classE (T.pre.getD i z4) = 0) = true := by cases hx : decide (classE (T.pre.getD i z4) = 0) <;> simp_all
      have hst : ckStep ⟨false, n, m, la, ep⟩ c ⟨0, ((0 + i : Nat) : Int), T.pre.getD i z4⟩ = .on (c + 1) := ck_on (nd0 h1 hhd h3)
      rw [hst]
      refine takes_of_tree (tabP_plain T) (wPO T) (.inr (by kernel_rfl)) (hp_below _) (ck_pre T n m la ep i c) ?_
      simp only [Tree.holds, rf_eq, hin, hi, hwr, hwc, e1, e2, e3, e4, o4_eta, d1, h3, decide_true, decide_false, Bool.not_false, Bool.not_true, Int.toNat_natCast, Nat.zero_add, Bool.and_self, Bool.and_true, Bool.true_and, true_and, Bool.and_eq_true, decide_eq_true_eq, true_implies, Bool.true_eq_false, Bool.false_eq_true, false_implies, and_true, List.getD_cons_zero, not_false_eq_true, not_true_eq_false]
      repeat' (first | apply And.intro | exact rfl | exact Nat.le_refl _ | omega | intro _)
  · have d1 : decide (checkE (T.pre.getD i z4) = 0) = false := decide_eq_false h1
    have hst : ckStep ⟨false, n, m, la, ep⟩ c ⟨0, ((0 + i : Nat) : Int), T.pre.getD i z4⟩ = .off (ckE ⟨false, n, m, la, ep⟩ ⟨c, 13⟩) := ck_off (nd13 h1) (by decide)
    rw [hst]
    refine takes_of_tree (tabP_plain T) (wPO T) (.inr (by kernel_rfl)) (hp_below _) (ck_pre T n m la ep i c) ?_
    simp only [Tree.holds, rf_eq, hin, hi, hwr, hwc, e1, e2, e3, e4, o4_eta, d1, decide_true, decide_false, Bool.not_false, Bool.not_true, Int.toNat_natCast, Nat.zero_add, Bool.and_self, Bool.and_true, Bool.true_and, true_and, Bool.and_eq_true, decide_eq_true_eq, true_implies, Bool.true_eq_false, Bool.false_eq_true, false_implies, and_true, List.getD_cons_zero, not_false_eq_true, not_true_eq_false]
    repeat' (first | apply And.intro | exact rfl | exact Nat.le_refl _ | omega | intro _)
theorem ck_pre_end {T : Pt} (h : T.Ok) {w : Pw} (hw : okW T w = true) {c : Int} :
    Takes Try.prog (tabP T) ra base 5 (codeOf 33 (false :: pPre)) (mkT 59 (insPre ckY ckP w (T.pre.length : Int))) (hp 0 (ckC w c)) fun y => y = (.exit 0, mkT 59 [(0, ckY), (1, ckP)], hp 0 (ckC w c)) := by
  obtain ⟨he, hn, hm⟩ := okW_iff.1 hw
  obtain ⟨e, n, m, la, ep⟩ := w
  simp only at he hn hm
  cases e with
  | true =>
    have hn0 : n = 0 := by rw [hn, h.e he.symm]; rfl
    have hp0 : T.pre.length = 0 := by rw [h.e he.symm]; rfl
    subst hn0
    rw [hp0]
    refine takes_of_tree (tabP_plain T) (wPO T) (.inr (by kernel_rfl)) (hp_below _) (ck_pree T m la ep c) ?_
    simp only [Tree.holds]
    rfl
  | false =>
    have hn' : ¬ ((T.pre.length : Int) < (n : Int)) := by omega
    refine takes_of_tree (tabP_plain T) (wPO T) (.inr (by kernel_rfl)) (hp_below _) (ck_pre T n m la ep (T.pre.length : Int) c) ?_
    simp only [Tree.holds, rf_eq, hn', decide_false, Bool.false_eq_true, false_implies, true_and, true_implies]
    rfl
theorem ck_po {T : Pt} (h : T.Ok) {w : Pw} {p : Int} {y : Pq} (hq : okQ T p y = true) {i : Nat} {a : Nd} {c : Int} (ha : (itemsAt (p + 1) 1 (poL T y))[i]? = some a) (hs : 0 ≤ c ∧ c ≤ 1000) :
    Takes Try.prog (tabP T) ra base 5 (codeOf 33 (false :: pPo)) (mkT 59 (insPo ckY w.m p y (i : Int))) (hp 0 (ckC w c)) fun v => PostQ (ckC w) (outPo ckY w.m p) .normal (insPo ckY w.m p y ((i + 1 : Nat) : Int)) (ckStep w c a) v := by
  obtain ⟨hi, rfl⟩ := itemsAt_get _ _ _ i a ha
  obtain ⟨hq1, hq2⟩ := okQ_iff.1 hq
  obtain ⟨f, par, q⟩ := y
  obtain ⟨hc0, hc1⟩ := hs
  cases f with
  | true => exact absurd hi (Nat.not_lt_zero _)
  | false =>
    obtain ⟨hq2, hq3⟩ := hq2 rfl
    simp only at hq2 hq3
    subst hq2
    simp only [poL] at hi hq1
    have hp4 := h.po par
    have hwr : wr .i64 ((i : Int) + 1) = ((i + 1 : Nat) : Int) := by rw [wr_in ⟨by omega, by omega⟩]; omega
    have hwc : wr .i64 (c + 1) = c + 1 := wr_in ⟨by omega, by omega⟩
    have hwp : wr .i64 ((par : Int) + 1) = (par : Int) + 1 := wr_in ⟨by omega, by omega⟩
    have hs0 : (0 : Int) < (par : Int) + 1 := by omega
    have hi0 : ¬ (((1 + i : Nat) : Int) = 0) := by omega
    have hi1 : ¬ (((i + 1 : Nat) : Int) = 0) := by omega
    have hin : (i : Int) < (q : Int) := by omega
    have e1 := k4_get hi
    have e2 := a4_get hi
    have e3 := b4_get hi
    have e4 := g4_get hi
    obtain ⟨e, n, m, la, ep⟩ := w
    show Takes _ _ _ _ _ _ _ _ fun v => PostQ _ _ _ _ (ckStep ⟨e, n, m, la, ep⟩ c ⟨(par : Int) + 1, ((1 + i : Nat) : Int), (T.po par).getD i z4⟩) v
    have hhd : (decide (0 < Nd.s ⟨(par : Int) + 1, ((1 + i : Nat) : Int), (T.po par).getD i z4⟩) && decide (Nd.i ⟨(par : Int) + 1, ((1 + i : Nat) : Int), (T.po par).getD i z4⟩ = 0)) = false := by simp only [hs0, hi0, decide_true, decide_false, Bool.and_false]
    by_cases h1 : checkE ((T.po par).getD i z4) = 0
    · have d1 : decide (checkE ((T.po par).getD i z4) = 0) = true := decide_eq_true h1
      by_cases h2 : decide (classE ((T.po par).getD i z4) = 0) = false
      · have hst : ckStep ⟨e, n, m, la, ep⟩ c ⟨(par : Int) + 1, ((1 + i : Nat) : Int), (T.po par).getD i z4⟩ = .off (ckE ⟨e, n, m, la, ep⟩ ⟨c, 14⟩) := ck_off (nd14 h1 hhd h2) (by decide)
        rw [hst]
        cases e with
        | false =>
          refine takes_of_tree (tabP_plain T) (wPO T) (.inr (by kernel_rfl)) (hp_below _) (ck_pof T n m par q la ep par i c) ?_
          simp only [Tree.holds, rf_eq, hin, hi, hwr, hwc, hwp, hs0, hi1, e1, e2, e3, e4, o4_eta, d1, h2, decide_true, decide_false, Bool.not_false, Bool.not_true, Int.toNat_natCast, Nat.zero_add, Bool.and_self, Bool.and_true, Bool.true_and, true_and, Bool.and_eq_true, decide_eq_true_eq, true_implies, Bool.true_eq_false, Bool.false_eq_true, false_implies, and_true, List.getD_cons_zero, not_false_eq_true, not_true_eq_false]
          repeat' (first | apply And.intro | exact rfl | exact Nat.le_refl _ | omega | intro _)
        | true =>
          refine takes_of_tree (tabP_plain T) (wPO T) (.inr (by kernel_rfl)) (hp_below _) (ck_pot T m par q la ep par i c) ?_
          simp only [Tree.holds, rf_eq, hin, hi, hwr, hwc, hwp, hs0, hi1, e1, e2, e3, e4, o4_eta, d1, h2, decide_true, decide_false, Bool.not_false, Bool.not_true, Int.toNat_natCast, Nat.zero_add, Bool.and_self, Bool.and_true, Bool.true_and, true_and, Bool.and_eq_true, decide_eq_true_eq, true_implies, Bool.true_eq_false, Bool.false_eq_true, false_implies, and_true, List.getD_cons_zero, not_false_eq_true, not_true_eq_false]
          repeat' (first | apply And.intro | exact rfl | exact Nat.le_refl _ | omega | intro _)
      · have h3 : decide (classE ((T.po par).getD i z4) = 0) = true := by cases hx : decide (classE ((T.po par).getD i z4) = 0) <;> simp_all
        have hst : ckStep ⟨e, n, m, la, ep⟩ c ⟨(par : Int) + 1, ((1 + i : Nat) : Int), (T.po par).getD i z4⟩ = .on (c + 1) := ck_on (nd0 h1 hhd h3)
        rw [hst]
        cases e with
        | false =>
          refine takes_of_tree (tabP_plain T) (wPO T) (.inr (by kernel_rfl)) (hp_below _) (ck_pof T n m par q la ep par i c) ?_
          simp only [Tree.holds, rf_eq, hin, hi, hwr, hwc, hwp, hs0, hi1, e1, e2, e3, e4, o4_eta, d1, h3, decide_true, decide_false, Bool.not_false, Bool.not_true, Int.toNat_natCast, Nat.zero_add, Bool.and_self, Bool.and_true, Bool.true_and, true_and, Bool.and_eq_true, decide_eq_true_eq, true_implies, Bool.true_eq_false, Bool.false_eq_true, false_implies, and_true, List.getD_cons_zero, not_false_eq_true, not_true_eq_false]
          repeat' (first | apply And.intro | exact rfl | exact Nat.le_refl _ | omega | intro _)
        | true =>
          refine takes_of_tree (tabP_plain T) (wPO T) (.inr (by kernel_rfl)) (hp_below _) (ck_pot T m par q la ep par i c) ?_
          simp only [Tree.holds, rf_eq, hin, hi, hwr, hwc, hwp, hs0, hi1, e1, e2, e3, e4, o4_eta, d1, h3, decide_true, decide_false, Bool.not_false, Bool.not_true, Int.toNat_natCast, Nat.zero_add, Bool.and_self, Bool.and_true, Bool.true_and, true_and, Bool.and_eq_true, decide_eq_true_eq, true_implies, Bool.true_eq_false, Bool.false_eq_true, false_implies, and_true, List.getD_cons_zero, not_false_eq_true, not_true_eq_false]
          repeat' (first | apply And.intro | exact rfl | exact Nat.le_refl _ | omega | intro _)
    · have d1 : decide (checkE ((T.po par).getD i z4) = 0) = false := decide_eq_false h1
      have hst : ckStep ⟨e, n, m, la, ep⟩ c ⟨(par : Int) + 1, ((1 + i : Nat) : Int), (T.po par).getD i z4⟩ = .off (ckE ⟨e, n, m, la, ep⟩ ⟨c, 13⟩) := ck_off (nd13 h1) (by decide)
      rw [hst]
      cases e with
      | false =>
        refine takes_of_tree (tabP_plain T) (wPO T) (.inr (by kernel_rfl)) (hp_below _) (ck_pof T n m par q la ep par i c) ?_
        simp only [Tree.holds, rf_eq, hin, hi, hwr, hwc, hwp, hs0, hi1, e1, e2, e3, e4, o4_eta, d1, decide_true, decide_false, Bool.not_false, Bool.not_true, Int.toNat_natCast, Nat.zero_add, Bool.and_self, Bool.and_true, Bool.true_and, true_and, Bool.and_eq_true, decide_eq_true_eq, true_implies, Bool.true_eq_false, Bool.false_eq_true, false_implies, and_true, List.getD_cons_zero, not_false_eq_true, not_true_eq_false]
        repeat' (first | apply And.intro | exact rfl | exact Nat.le_refl _ | omega | intro _)
      | true =>
        refine takes_of_tree (tabP_plain T) (wPO T) (.inr (by kernel_rfl)) (hp_below _) (ck_pot T m par q la ep par i c) ?_
        simp only [Tree.holds, rf_eq, hin, hi, hwr, hwc, hwp, hs0, hi1, e1, e2, e3, e4, o4_eta, d1, decide_true, decide_false, Bool.not_false, Bool.not_true, Int.toNat_natCast, Nat.zero_add, Bool.and_self, Bool.and_true, Bool.true_and, true_and, Bool.and_eq_true, decide_eq_true_eq, true_implies, Bool.true_eq_false, Bool.false_eq_true, false_implies, and_true, List.getD_cons_zero, not_false_eq_true, not_true_eq_false]
        repeat' (first | apply And.intro | exact rfl | exact Nat.le_refl _ | omega | intro _)
theorem ck_po_end {T : Pt} {w : Pw} {p : Int} {y : Pq} (hq : okQ T p y = true) {c : Int} :
    Takes Try.prog (tabP T) ra base 5 (codeOf 33 (false :: pPo)) (mkT 59 (insPo ckY w.m p y ((poL T y).length : Int))) (hp 0 (ckC w c)) fun v => v = (.exit 4, mkT 59 (outPo ckY w.m p), hp 0 (ckC w c)) := by
  obtain ⟨hq1, _⟩ := okQ_iff.1 hq
  obtain ⟨f, par, q⟩ := y
  obtain ⟨e, n, m, la, ep⟩ := w
  simp only at hq1
  have hn : ¬ (((poL T ⟨f, par, q⟩).length : Int) < (q : Int)) := by
    rw [hq1]; exact Int.lt_irrefl _
  cases f with
  | true =>
    have hq0 : q = 0 := hq1
    subst hq0
    cases e with
    | false =>
      refine takes_of_tree (tabP_plain T) (wPO T) (.inr (by kernel_rfl)) (hp_below _) (ck_pef T n m la ep p c) ?_
      simp only [Tree.holds]
      rfl
    | true =>
      refine takes_of_tree (tabP_plain T) (wPO T) (.inr (by kernel_rfl)) (hp_below _) (ck_pet T m la ep p c) ?_
      simp only [Tree.holds]
      rfl
  | false =>
    cases e with
    | false =>
      refine takes_of_tree (tabP_plain T) (wPO T) (.inr (by kernel_rfl)) (hp_below _) (ck_pof T n m par q la ep p ((poL T ⟨false, par, q⟩).length : Int) c) ?_
      simp only [Tree.holds, rf_eq, hn, decide_false, Bool.false_eq_true, false_implies, true_and, true_implies]
      rfl
    | true =>
      refine takes_of_tree (tabP_plain T) (wPO T) (.inr (by kernel_rfl)) (hp_below _) (ck_pot T m par q la ep p ((poL T ⟨false, par, q⟩).length : Int) c) ?_
      simp only [Tree.holds, rf_eq, hn, decide_false, Bool.false_eq_true, false_implies, true_and, true_implies]
      rfl
end
end Go.Proofs.Ytompijagcjjamaa

namespace Go.Proofs.Ytompijagcjjamaa
open Ab
theorem sg_kinds {w : Pw} : ∀ (L : List Nd) (s : Int), 0 ≤ s ∧ s ≤ 1000 → (∃ s', runS (sgStep w) L s = .on s' ∧ 0 ≤ s' ∧ s' ≤ 1000) ∨ ∃ e, runS (sgStep w) L s = .off (sgE w e)
  | [], s, h => .inl ⟨s, rfl, h⟩
  | a :: L, s, h => by
    simp only [runS]
    by_cases hs : s = 0
    · subst hs; exact .inr ⟨a.s, by rw [sg_off]⟩
    · rw [sg_on hs]
      exact sg_kinds L (s - 1) ⟨by omega, by omega⟩
theorem ck_kinds {w : Pw} : ∀ (L : List Nd) (s : Int) (m : Nat), 0 ≤ s ∧ s ≤ m → (∃ s', runS (ckStep w) L s = .on s' ∧ 0 ≤ s' ∧ s' ≤ (m + L.length : Nat)) ∨ ∃ e, runS (ckStep w) L s = .off (ckE w e)
  | [], s, m, h => .inl ⟨s, rfl, h⟩
  | a :: L, s, m, h => by
    simp only [runS]
    by_cases hs : ndErr a = 0
    · rw [ck_on hs]
      rcases ck_kinds L (s + 1) (m + 1) ⟨by omega, by omega⟩ with ⟨s', h1, h2, h3⟩ | h
      · exact .inl ⟨s', h1, h2, by simp only [List.length_cons]; omega⟩
      · exact .inr h
    · rw [ck_off rfl hs]; exact .inr ⟨_, rfl⟩
section
variable {ra : Nat → Nat → Nat × Nat} {base : Nat}
theorem sg_two {w : Pw} {ro outs : List (Nat × AVal)} {ex : AExit} {L : List Nd} {s : Int} (hs : 0 ≤ s ∧ s ≤ 1000) {v : State} (hv : PostQ (sgC w) ro ex outs (runS (sgStep w) L s) v) :
    (∃ s', runS (sgStep w) L s = .on s' ∧ v = (ex, mkT 59 outs, hp 0 (sgC w s'))) ∨ ∃ e, runS (sgStep w) L s = .off (sgE w e) ∧ v = (.ret, mkT 59 ro, hp 0 (sgE w e)) := by
  rcases sg_kinds L s hs with ⟨s', h1, _⟩ | ⟨e, h1⟩
  · rw [h1] at hv; exact .inl ⟨s', h1, hv⟩
  · rw [h1] at hv; exact .inr ⟨e, h1, hv⟩
theorem sg_step {w : Pw} {a : Nd} {s s' : Int} (hs : 0 ≤ s ∧ s ≤ 1000) (he : sgStep w s a = .on s') : 0 ≤ s' ∧ s' ≤ 1000 := by
  by_cases h0 : s = 0
  · subst h0; rw [sg_off] at he; cases he
  · rw [sg_on h0] at he; cases he; omega
theorem sg_pos {T : Pt} (h : T.Ok) {w : Pw} {p : Int} {y : Pq} (hq : okQ T p y = true) {s : Int} (hs : 0 ≤ s ∧ s ≤ 1000) :
    Takes Try.prog (tabP T) ra base 4 (.loop (codeOf 33 (false :: pPo))) (mkT 59 (insPo sgY w.m p y 0)) (hp 0 (sgC w s)) fun v => PostQ (sgC w) (outPo sgY w.m p) (.exit 4) (outPo sgY w.m p) (runS (sgStep w) (itemsAt (p + 1) 1 (poL T y)) s) v := by
  have h4 := poL_le h y
  refine iter_loopQ (C := sgC w) (step := sgStep w) (ins := fun i => insPo sgY w.m p y (i : Int)) (inv := fun i s => 0 ≤ s ∧ s ≤ 1000) (itemsAt (p + 1) 1 (poL T y)) ?_ ?_ ?_ hs
  · intro i a s ha hs
    have := (itemsAt_get _ _ _ _ _ ha).1
    exact sg_po h hq ha ⟨hs.1, by have := hs.2; omega⟩
  · intro i a s s' ha hs he
    exact sg_step hs he
  · intro s _
    rw [itemsAt_length]
    exact sg_po_end hq
theorem sgTPo_ok {T : Pt} (h : T.Ok) : ToldsOK Try.prog (tabP T) ra base 4 (sgTPo T) := by
  refine sumT_ok noT_ok rfl (toldX_ok (c := .loop (codeOf 33 (false :: pPo))) okBl_eq (by kernel_rfl) fun x hx => ?_)
  obtain ⟨s, w, p, y⟩ := x
  simp only [sgPoD, Bool.and_eq_true, okI_iff] at hx
  exact (sg_pos h hx.2 hx.1).mono fun v hv => sg_two hx.1 hv
theorem sg_stb {T : Pt} (h : T.Ok) {w : Pw} (hw : okW T w = true) {p : Nat} (hp0 : p < T.st.length) {c : Int} (hs : 0 ≤ c ∧ c ≤ 1000) :
    Takes Try.prog (tabP T) ra base 4 (codeOf 33 (false :: pSt)) (mkT 59 (insSt sgY w.m (p : Int))) (hp 0 (sgC w c)) fun y => PostQ (sgC w) [] .normal (insSt sgY w.m ((p + 1 : Nat) : Int)) (stStep (sgStep w) T.po c (p, T.st.getD p z4)) y := by
  obtain ⟨he, hn, hm⟩ := okW_iff.1 hw
  obtain ⟨e, n, m, la, ep⟩ := w
  obtain ⟨hc0, hc1⟩ := hs
  simp only at he hn hm
  have hp4 := h.st
  have hwr : wr .i64 ((p : Int) + 1) = (p : Int) + 1 := wr_in ⟨by omega, by omega⟩
  have hwc : wr .i64 (c - 1) = c - 1 := wr_in ⟨by omega, by omega⟩
  have hin : (p : Int) < (m : Int) := by omega
  have hs0 : (0 : Int) < (p : Int) + 1 := by omega
  have e1 := k4_get hp0
  have e2 := a4_get hp0
  have e3 := b4_get hp0
  have e4 := g4_get hp0
  have hqt : okQ T (p : Int) ⟨true, 0, 0⟩ = true := okQ_iff.2 ⟨rfl, fun h => (by cases h)⟩
  have hqf : T.fs.getD p true = false → okQ T (p : Int) ⟨false, p, T.ns.getD p 0⟩ = true := fun hf => okQ_iff.2 ⟨h.ns p hp0 hf, fun _ => ⟨rfl, by show p ≤ 10; omega⟩⟩
  have hyt : T.fs.getD p true = true → poL T ⟨true, 0, 0⟩ = T.po p := fun hf => (h.fs p hp0 hf).symm
  have hyf : poL T ⟨false, p, T.ns.getD p 0⟩ = T.po p := rfl
  have ex1 : ((p + 1 : Nat) : Int) = (p : Int) + 1 := by omega
  rw [ex1]
  by_cases hc : c = 0
  · subst hc
    have hst : sgStep ⟨e, n, m, la, ep⟩ 0 ⟨(p : Int) + 1, 0, T.st.getD p z4⟩ = .off (sgE ⟨e, n, m, la, ep⟩ ((p : Int) + 1)) := sg_off
    cases e with
    | false =>
      refine takes_of_treeQ (tabP_plain T) (wP T) (sgTPo_ok h) (.inr (by kernel_rfl)) (hp_below _) (sg_stf T n m la ep p 0) ?_
      simp only [TreeQ.holds, rf_eq, hin, hp0, hwr, hwc, hs0, e1, e2, e3, e4, o4_eta, decide_true, decide_false, Bool.not_false, Bool.not_true, Int.toNat_natCast, Nat.zero_add, Bool.and_self, Bool.and_true, Bool.true_and, true_and, Bool.and_eq_true, decide_eq_true_eq, true_implies, Bool.true_eq_false, Bool.false_eq_true, false_implies, and_true, List.getD_cons_zero, not_false_eq_true, not_true_eq_false]
      have hoff := st_off hst
      refine ⟨by omega, fun hf => ?_, fun hf => ?_⟩ <;> (rw [hoff]; rfl)
    | true =>
      refine takes_of_treeQ (tabP_plain T) (wP T) (sgTPo_ok h) (.inr (by kernel_rfl)) (hp_below _) (sg_stt T m la ep p 0) ?_
      simp only [TreeQ.holds, rf_eq, hin, hp0, hwr, hwc, hs0, e1, e2, e3, e4, o4_eta, decide_true, decide_false, Bool.not_false, Bool.not_true, Int.toNat_natCast, Nat.zero_add, Bool.and_self, Bool.and_true, Bool.true_and, true_and, Bool.and_eq_true, decide_eq_true_eq, true_implies, Bool.true_eq_false, Bool.false_eq_true, false_implies, and_true, List.getD_cons_zero, not_false_eq_true, not_true_eq_false]
      have hoff := st_off hst
      refine ⟨by omega, fun hf => ?_, fun hf => ?_⟩ <;> (rw [hoff]; rfl)
  · have hst : sgStep ⟨e, n, m, la, ep⟩ c ⟨(p : Int) + 1, 0, T.st.getD p z4⟩ = .on (c - 1) := sg_on hc
    have hI : okI 1000 (c - 1) = true := okI_iff.2 ⟨by omega, by omega⟩
    cases e with
    | false =>
      refine takes_of_treeQ (tabP_plain T) (wP T) (sgTPo_ok h) (.inr (by kernel_rfl)) (hp_below _) (sg_stf T n m la ep p c) ?_
      simp only [TreeQ.holds, rf_eq, hin, hp0, hwr, hwc, hs0, e1, e2, e3, e4, o4_eta, hc, decide_true, decide_false, Bool.not_false, Bool.not_true, Int.toNat_natCast, Nat.zero_add, Bool.and_self, Bool.and_true, Bool.true_and, true_and, Bool.and_eq_true, decide_eq_true_eq, true_implies, Bool.true_eq_false, Bool.false_eq_true, false_implies, and_true, List.getD_cons_zero, not_false_eq_true, not_true_eq_false]
      refine ⟨by omega, fun hf => ?_, fun hf => ?_⟩
      · exact ⟨okBl_self rfl, hI, fun y5 h5 => by rw [st_step hst rfl (hyt hf) h5]; rfl, fun y5 h5 => by rw [st_step hst rfl (hyt hf) h5]; rfl⟩
      · exact ⟨okBl_self rfl, ⟨hI, hqf hf⟩, fun y5 h5 => by rw [st_step hst rfl hyf h5]; rfl, fun y5 h5 => by rw [st_step hst rfl hyf h5]; rfl⟩
    | true =>
      refine takes_of_treeQ (tabP_plain T) (wP T) (sgTPo_ok h) (.inr (by kernel_rfl)) (hp_below _) (sg_stt T m la ep p c) ?_
      simp only [TreeQ.holds, rf_eq, hin, hp0, hwr, hwc, hs0, e1, e2, e3, e4, o4_eta, hc, decide_true, decide_false, Bool.not_false, Bool.not_true, Int.toNat_natCast, Nat.zero_add, Bool.and_self, Bool.and_true, Bool.true_and, true_and, Bool.and_eq_true, decide_eq_true_eq, true_implies, Bool.true_eq_false, Bool.false_eq_true, false_implies, and_true, List.getD_cons_zero, not_false_eq_true, not_true_eq_false]
      refine ⟨by omega, fun hf => ?_, fun hf => ?_⟩
      · exact ⟨okBl_self rfl, hI, fun y5 h5 => by rw [st_step hst rfl (hyt hf) h5]; rfl, fun y5 h5 => by rw [st_step hst rfl (hyt hf) h5]; rfl⟩
      · exact ⟨okBl_self rfl, ⟨hI, hqf hf⟩, fun y5 h5 => by rw [st_step hst rfl hyf h5]; rfl, fun y5 h5 => by rw [st_step hst rfl hyf h5]; rfl⟩
theorem sg_st_end {T : Pt} (h : T.Ok) {w : Pw} (hw : okW T w = true) {c : Int} :
    Takes Try.prog (tabP T) ra base 4 (codeOf 33 (false :: pSt)) (mkT 59 (insSt sgY w.m (T.st.length : Int))) (hp 0 (sgC w c)) fun y => y = (.exit 2, mkT 59 [], hp 0 (sgC w c)) := by
  obtain ⟨he, hn, hm⟩ := okW_iff.1 hw
  obtain ⟨e, n, m, la, ep⟩ := w
  simp only at he hn hm
  have hn' : ¬ ((T.st.length : Int) < (m : Int)) := by omega
  cases e with
  | false =>
    refine takes_of_treeQ (tabP_plain T) (wP T) (sgTPo_ok h) (.inr (by kernel_rfl)) (hp_below _) (sg_stf T n m la ep (T.st.length : Int) c) ?_
    simp only [TreeQ.holds, rf_eq, hn', decide_false, Bool.false_eq_true, false_implies, true_and, true_implies]
    rfl
  | true =>
    refine takes_of_treeQ (tabP_plain T) (wP T) (sgTPo_ok h) (.inr (by kernel_rfl)) (hp_below _) (sg_stt T m la ep (T.st.length : Int) c) ?_
    simp only [TreeQ.holds, rf_eq, hn', decide_false, Bool.false_eq_true, false_implies, true_and, true_implies]
    rfl
theorem sg_sts {T : Pt} (h : T.Ok) {w : Pw} (hw : okW T w = true) {s : Int} (hs : 0 ≤ s ∧ s ≤ 1000) :
    Takes Try.prog (tabP T) ra base 4 (.loop (codeOf 33 (false :: pSt))) (mkT 59 (insSt sgY w.m 0)) (hp 0 (sgC w s)) fun y => PostQ (sgC w) [] (.exit 2) [] (runS (sgStep w) (stItems T.po 0 T.st) s) y := by
  have h2 := h.st
  rw [← runS_groups]
  refine iter_loopQ (C := sgC w) (step := stStep (sgStep w) T.po) (ins := fun i => insSt sgY w.m (i : Int)) (inv := fun i s => 0 ≤ s ∧ s ≤ 1000) (groups 0 T.st) ?_ ?_ ?_ hs
  · intro i a s ha hs
    obtain ⟨hi, rfl⟩ := groups_get _ _ _ _ ha
    simp only [Nat.zero_add]
    exact sg_stb h hw hi ⟨hs.1, by have := hs.2; omega⟩
  · intro i a s s' ha hs he
    obtain ⟨hi, rfl⟩ := groups_get _ _ _ _ ha
    simp only [Nat.zero_add, stStep] at he
    cases h1 : sgStep w s ⟨(i : Int) + 1, 0, T.st.getD i z4⟩ with
    | off B => rw [h1] at he; cases he
    | on s1 =>
      rw [h1] at he
      rcases sg_kinds (w := w) (itemsAt ((i : Int) + 1) 1 (T.po i)) s1 (sg_step hs h1) with ⟨s2, h2, h3⟩ | ⟨e, h2⟩
      · simp only [h2] at he; cases he; exact h3
      · simp only [h2] at he; cases he
  · intro s _
    rw [groups_length]
    exact sg_st_end h hw
theorem sg_pres {T : Pt} (h : T.Ok) {w : Pw} (hw : okW T w = true) {s : Int} (hs : 0 ≤ s ∧ s ≤ 1000) :
    Takes Try.prog (tabP T) ra base 4 (.loop (codeOf 33 (false :: pPre))) (mkT 59 (insPre sgY sgP w 0)) (hp 0 (sgC w s)) fun y => PostQ (sgC w) [(0, sgY), (1, sgP)] (.exit 0) [(0, sgY), (1, sgP)] (runS (sgStep w) (itemsAt 0 0 T.pre) s) y := by
  have h2 := h.pre
  refine iter_loopQ (C := sgC w) (step := sgStep w) (ins := fun i => insPre sgY sgP w (i : Int)) (inv := fun i s => 0 ≤ s ∧ s ≤ 1000) (itemsAt 0 0 T.pre) ?_ ?_ ?_ hs
  · intro i a s ha hs
    have := (itemsAt_get _ _ _ _ _ ha).1
    exact sg_pre0 h hw ha ⟨hs.1, by have := hs.2; omega⟩
  · intro i a s s' ha hs he
    exact sg_step hs he
  · intro s _
    rw [itemsAt_length]
    exact sg_pre_end h hw
theorem sgT_ok {T : Pt} (h : T.Ok) : ToldsOK Try.prog (tabP T) ra base 4 (sgT T) := by
  refine sumT_ok (sumT_ok noT_ok rfl (toldX_ok (c := .loop (codeOf 33 (false :: pSt))) okBl_eq (by kernel_rfl) fun x hx => ?_)) rfl (toldX_ok (c := .loop (codeOf 33 (false :: pPre))) okBl_eq (by kernel_rfl) fun x hx => ?_)
  · obtain ⟨s, w, p, y⟩ := x
    simp only [sgStD, Bool.and_eq_true, okI_iff] at hx
    exact (sg_sts h hx.2 hx.1).mono fun v hv => sg_two hx.1 hv
  · obtain ⟨s, w, p, y⟩ := x
    simp only [sgPrD, Bool.and_eq_true, okI_iff] at hx
    exact (sg_pres h hx.2 hx.1).mono fun v hv => sg_two hx.1 hv
theorem sg_joinP {T : Pt} {w : Pw} {s s1 : Int} {r : Res Int} (h1 : runS (sgStep w) (itemsAt 0 0 T.pre) s = .on s1) (h2 : runS (sgStep w) (stItems T.po 0 T.st) s1 = r) : runS (sgStep w) (nodesT T) s = r := by
  simp only [nodesT, runS_append, h1]; exact h2
theorem sg_joinE {T : Pt} {w : Pw} {s : Int} {B : List Blk} (h1 : runS (sgStep w) (itemsAt 0 0 T.pre) s = .off B) : runS (sgStep w) (nodesT T) s = .off B := by
  simp only [nodesT, runS_append, h1]
theorem sg_33 {T : Pt} (h : T.Ok) {w : Pw} (hw : okW T w = true) {c : Int} (hs : 0 ≤ c ∧ c ≤ 1000) : Gives Try.prog (tabP T) ra base 4 33 [sgY, sgP] (hp 0 (sgC w c)) fun _ h' => (∃ s', runS (sgStep w) (nodesT T) c = .on s' ∧ h' = hp 0 (sgC w s')) ∨ ∃ v, runS (sgStep w) (nodesT T) c = .off (sgE w v) ∧ h' = hp 0 (sgE w v) := by
  have hw' := hw
  have h4 := h.pre
  obtain ⟨he, hn, hm⟩ := okW_iff.1 hw
  obtain ⟨e, n, m, la, ep⟩ := w
  simp only at he hn hm
  have hI : okI 1000 c = true := okI_iff.2 hs
  have hI1 : ∀ s', runS (sgStep ⟨e, n, m, la, ep⟩) (itemsAt 0 0 T.pre) c = .on s' → okI 1000 s' = true := fun s' h1 => by
    rcases sg_kinds (w := ⟨e, n, m, la, ep⟩) (itemsAt 0 0 T.pre) c hs with ⟨s2, h2, h3⟩ | ⟨v, h2⟩
    · rw [h1] at h2; cases h2; exact okI_iff.2 h3
    · rw [h1] at h2; cases h2
  cases e with
  | false =>
    refine gives_of_treeQ (tabP_plain T) (wP T) (sgT_ok h) (hp_below _) (sg_fnf T n m la ep c) ?_
    simp only [TreeQ.holds, rf_eq, decide_true, Bool.and_self, Bool.and_true, Bool.true_and, true_and, hw', hI, Bool.and_eq_true, and_true]
    exact ⟨okBl_self rfl, fun s' hs => ⟨okBl_self rfl, hI1 s' hs, fun s'' h2 => ⟨_, rfl, .inl ⟨s'', sg_joinP hs h2, rfl⟩⟩, fun v h2 => ⟨_, rfl, .inr ⟨v, sg_joinP hs h2, rfl⟩⟩⟩, fun v hs => ⟨_, rfl, .inr ⟨v, sg_joinE hs, rfl⟩⟩⟩
  | true =>
    have hn0 : n = 0 := by rw [hn, h.e he.symm]; rfl
    subst hn0
    refine gives_of_treeQ (tabP_plain T) (wP T) (sgT_ok h) (hp_below _) (sg_fnt T m la ep c) ?_
    simp only [TreeQ.holds, rf_eq, decide_true, Bool.and_self, Bool.and_true, Bool.true_and, true_and, hw', hI, Bool.and_eq_true, and_true]
    exact ⟨okBl_self rfl, fun s' hs => ⟨okBl_self rfl, hI1 s' hs, fun s'' h2 => ⟨_, rfl, .inl ⟨s'', sg_joinP hs h2, rfl⟩⟩, fun v h2 => ⟨_, rfl, .inr ⟨v, sg_joinP hs h2, rfl⟩⟩⟩, fun v hs => ⟨_, rfl, .inr ⟨v, sg_joinE hs, rfl⟩⟩⟩
theorem sg_rg {T : Pt} (h : T.Ok) (x : SgW) (hx : (sgD T).pre x = true) : Takes Try.prog (tabP T) ra base 0 (codeOf 11 pSg) (mkT 16 ((sgD T).ins x)) (hp 0 ((sgD T).blks x)) fun y => PostL 16 x y (sgD T).alts := by
  have hs : codeOf 11 pSg = .rangeFunc (.tmp 7) #[8, 9] (rfAs 11 pSg) (rfBd 11 pSg) := by kernel_rfl
  obtain ⟨s, w⟩ := x
  simp only [sgD, Bool.and_eq_true, okI_iff] at hx
  refine takes_range (tabP_plain T) Try.names hs (f := 33) (cap := [.ptr (.own 2 0 0 0)]) rfl ⟨_, Try.func33, by kernel_rfl⟩ (Nat.zero_le _) ?_
  refine (sg_33 h hx.2 hx.1).mono fun v h' hh => ?_
  rcases hh with ⟨s', hs', rfl⟩ | ⟨v, hs', rfl⟩
  · exact ⟨_, _, _, _, .ready, .normal, [1], 16, _, rfl, rfl, rfl, .inl ⟨s', hs', rfl⟩⟩
  · exact ⟨_, _, _, _, .done, .ret, [1], 16, _, rfl, rfl, rfl, .inr ⟨v, hs', rfl⟩⟩
theorem sgTR_ok {T : Pt} (h : T.Ok) : ToldsOK Try.prog (tabP T) ra base 0 (sgTR T) :=
  sumT_ok noT_ok rfl (toldR_ok (c := codeOf 11 pSg) (by kernel_rfl) fun x hx => sg_rg h x hx)
theorem ck_two {w : Pw} {ro outs : List (Nat × AVal)} {ex : AExit} {L : List Nd} {s : Int} {m : Nat} (hs : 0 ≤ s ∧ s ≤ m) {v : State} (hv : PostQ (ckC w) ro ex outs (runS (ckStep w) L s) v) :
    (∃ s', runS (ckStep w) L s = .on s' ∧ v = (ex, mkT 59 outs, hp 0 (ckC w s'))) ∨ ∃ e, runS (ckStep w) L s = .off (ckE w e) ∧ v = (.ret, mkT 59 ro, hp 0 (ckE w e)) := by
  rcases ck_kinds L s _ hs with ⟨s', h1, _⟩ | ⟨e, h1⟩
  · rw [h1] at hv; exact .inl ⟨s', h1, hv⟩
  · rw [h1] at hv; exact .inr ⟨e, h1, hv⟩
theorem ck_step {w : Pw} {a : Nd} {s s' : Int} {m : Nat} (hs : 0 ≤ s ∧ s ≤ m) (he : ckStep w s a = .on s') : 0 ≤ s' ∧ s' ≤ ((m + 1 : Nat) : Int) := by
  by_cases h0 : ndErr a = 0
  · rw [ck_on h0] at he; cases he; omega
  · rw [ck_off rfl h0] at he; cases he
theorem ck_pos {T : Pt} (h : T.Ok) {w : Pw} {p : Int} {y : Pq} (hq : okQ T p y = true) {s : Int} (hs : 0 ≤ s ∧ s ≤ 100) :
    Takes Try.prog (tabP T) ra base 5 (.loop (codeOf 33 (false :: pPo))) (mkT 59 (insPo ckY w.m p y 0)) (hp 0 (ckC w s)) fun v => PostQ (ckC w) (outPo ckY w.m p) (.exit 4) (outPo ckY w.m p) (runS (ckStep w) (itemsAt (p + 1) 1 (poL T y)) s) v := by
  have h4 := poL_le h y
  refine iter_loopQ (C := ckC w) (step := ckStep w) (ins := fun i => insPo ckY w.m p y (i : Int)) (inv := fun i s => 0 ≤ s ∧ s ≤ ((100 + i : Nat) : Int)) (itemsAt (p + 1) 1 (poL T y)) ?_ ?_ ?_ hs
  · intro i a s ha hs
    have := (itemsAt_get _ _ _ _ _ ha).1
    exact ck_po h hq ha ⟨hs.1, by have := hs.2; omega⟩
  · intro i a s s' ha hs he
    exact ck_step hs he
  · intro s _
    rw [itemsAt_length]
    exact ck_po_end hq
theorem ckTPo_ok {T : Pt} (h : T.Ok) : ToldsOK Try.prog (tabP T) ra base 5 (ckTPo T) := by
  refine sumT_ok noT_ok rfl (toldX_ok (c := .loop (codeOf 33 (false :: pPo))) okBl_eq (by kernel_rfl) fun x hx => ?_)
  obtain ⟨s, w, p, y⟩ := x
  simp only [ckPoD, Bool.and_eq_true, okI_iff] at hx
  exact (ck_pos h hx.2 hx.1).mono fun v hv => ck_two hx.1 hv
theorem ck_stb {T : Pt} (h : T.Ok) {w : Pw} (hw : okW T w = true) {p : Nat} (hp0 : p < T.st.length) {c : Int} (hs : 0 ≤ c ∧ c ≤ 60) :
    Takes Try.prog (tabP T) ra base 5 (codeOf 33 (false :: pSt)) (mkT 59 (insSt ckY w.m (p : Int))) (hp 0 (ckC w c)) fun y => PostQ (ckC w) [] .normal (insSt ckY w.m ((p + 1 : Nat) : Int)) (stStep (ckStep w) T.po c (p, T.st.getD p z4)) y := by
  obtain ⟨he, hn, hm⟩ := okW_iff.1 hw
  obtain ⟨e, n, m, la, ep⟩ := w
  obtain ⟨hc0, hc1⟩ := hs
  simp only at he hn hm
  have hp4 := h.st
  have hwr : wr .i64 ((p : Int) + 1) = (p : Int) + 1 := wr_in ⟨by omega, by omega⟩
  have hwc : wr .i64 (c + 1) = c + 1 := wr_in ⟨by omega, by omega⟩
  have hin : (p : Int) < (m : Int) := by omega
  have hs0 : (0 : Int) < (p : Int) + 1 := by omega
  have e1 := k4_get hp0
  have e2 := a4_get hp0
  have e3 := b4_get hp0
  have e4 := g4_get hp0
  have hqt : okQ T (p : Int) ⟨true, 0, 0⟩ = true := okQ_iff.2 ⟨rfl, fun h => (by cases h)⟩
  have hqf : T.fs.getD p true = false → okQ T (p : Int) ⟨false, p, T.ns.getD p 0⟩ = true := fun hf => okQ_iff.2 ⟨h.ns p hp0 hf, fun _ => ⟨rfl, by show p ≤ 10; omega⟩⟩
  have hyt : T.fs.getD p true = true → poL T ⟨true, 0, 0⟩ = T.po p := fun hf => (h.fs p hp0 hf).symm
  have hyf : poL T ⟨false, p, T.ns.getD p 0⟩ = T.po p := rfl
  have ex1 : ((p + 1 : Nat) : Int) = (p : Int) + 1 := by omega
  rw [ex1]
  have hhd : (decide (0 < Nd.s ⟨(p : Int) + 1, 0, T.st.getD p z4⟩) && decide (Nd.i ⟨(p : Int) + 1, 0, T.st.getD p z4⟩ = 0)) = true := by simp only [hs0, decide_true, Bool.and_self]
  by_cases h1 : checkE (T.st.getD p z4) = 0
  · have d1 : decide (checkE (T.st.getD p z4) = 0) = true := decide_eq_true h1
    by_cases h2 : decide (classE (T.st.getD p z4) = 0) = true
    · have hst : ckStep ⟨e, n, m, la, ep⟩ c ⟨(p : Int) + 1, 0, T.st.getD p z4⟩ = .off (ckE ⟨e, n, m, la, ep⟩ ⟨c, 14⟩) := ck_off (nd14 h1 hhd h2) (by decide)
      cases e with
      | false =>
        refine takes_of_treeQ (tabP_plain T) (wPO T) (ckTPo_ok h) (.inr (by kernel_rfl)) (hp_below _) (ck_stf T n m la ep p c) ?_
        simp only [TreeQ.holds, rf_eq, hin, hp0, hwr, hwc, hs0, e1, e2, e3, e4, o4_eta, d1, h2, decide_true, decide_false, Bool.not_false, Bool.not_true, Int.toNat_natCast, Nat.zero_add, Bool.and_self, Bool.and_true, Bool.true_and, true_and, Bool.and_eq_true, decide_eq_true_eq, true_implies, Bool.true_eq_false, Bool.false_eq_true, false_implies, and_true, List.getD_cons_zero, not_false_eq_true, not_true_eq_false]
        have hoff := st_off hst
        refine ⟨by omega, fun hf => ?_, fun hf => ?_⟩ <;> (rw [hoff]; rfl)
      | true =>
        refine takes_of_treeQ (tabP_plain T) (wPO T) (ckTPo_ok h) (.inr (by kernel_rfl)) (hp_below _) (ck_stt T m la ep p c) ?_
        simp only [TreeQ.holds, rf_eq, hin, hp0, hwr, hwc, hs0, e1, e2, e3, e4, o4_eta, d1, h2, decide_true, decide_false, Bool.not_false, Bool.not_true, Int.toNat_natCast, Nat.zero_add, Bool.and_self, Bool.and_true, Bool.true_and, true_and, Bool.and_eq_true, decide_eq_true_eq, true_implies, Bool.true_eq_false, Bool.false_eq_true, false_implies, and_true, List.getD_cons_zero, not_false_eq_true, not_true_eq_false]
        have hoff := st_off hst
        refine ⟨by omega, fun hf => ?_, fun hf => ?_⟩ <;> (rw [hoff]; rfl)
    · have h3 : decide (classE (T.st.getD p z4) = 0) = false := by cases hx : decide (classE (T.st.getD p z4) = 0) <;> simp_all
      have hst : ckStep ⟨e, n, m, la, ep⟩ c ⟨(p : Int) + 1, 0, T.st.getD p z4⟩ = .on (c + 1) := ck_on (nd0 h1 hhd h3)
      have hI : okI 100 (c + 1) = true := okI_iff.2 ⟨by omega, by omega⟩
      cases e with
      | false =>
        refine takes_of_treeQ (tabP_plain T) (wPO T) (ckTPo_ok h) (.inr (by kernel_rfl)) (hp_below _) (ck_stf T n m la ep p c) ?_
        simp only [TreeQ.holds, rf_eq, hin, hp0, hwr, hwc, hs0, e1, e2, e3, e4, o4_eta, d1, h3, decide_true, decide_false, Bool.not_false, Bool.not_true, Int.toNat_natCast, Nat.zero_add, Bool.and_self, Bool.and_true, Bool.true_and, true_and, Bool.and_eq_true, decide_eq_true_eq, true_implies, Bool.true_eq_false, Bool.false_eq_true, false_implies, and_true, List.getD_cons_zero, not_false_eq_true, not_true_eq_false]
        refine ⟨by omega, fun hf => ?_, fun hf => ?_⟩
        · exact ⟨okBl_self rfl, hI, fun y5 h5 => by rw [st_step hst rfl (hyt hf) h5]; rfl, fun y5 h5 => by rw [st_step hst rfl (hyt hf) h5]; rfl⟩
        · exact ⟨okBl_self rfl, ⟨hI, hqf hf⟩, fun y5 h5 => by rw [st_step hst rfl hyf h5]; rfl, fun y5 h5 => by rw [st_step hst rfl hyf h5]; rfl⟩
      | true =>
        refine takes_of_treeQ (tabP_plain T) (wPO T) (ckTPo_ok h) (.inr (by kernel_rfl)) (hp_below _) (ck_stt T m la ep p c) ?_
        simp only [TreeQ.holds, rf_eq, hin, hp0, hwr, hwc, hs0, e1, e2, e3, e4, o4_eta, d1, h3, decide_true, decide_false, Bool.not_false, Bool.not_true, Int.toNat_natCast, Nat.zero_add, Bool.and_self, Bool.and_true, Bool.true_and, true_and, Bool.and_eq_true, decide_eq_true_eq, true_implies, Bool.true_eq_false, Bool.false_eq_true, false_implies, and_true, List.getD_cons_zero, not_false_eq_true, not_true_eq_false]
        refine ⟨by omega, fun hf => ?_, fun hf => ?_⟩
        · exact ⟨okBl_self rfl, hI, fun y5 h5 => by rw [st_step hst rfl (hyt hf) h5]; rfl, fun y5 h5 => by rw [st_step hst rfl (hyt hf) h5]; rfl⟩
        · exact ⟨okBl_self rfl, ⟨hI, hqf hf⟩, fun y5 h5 => by rw [st_step hst rfl hyf h5]; rfl, fun y5 h5 => by rw [st_step hst rfl hyf h5]; rfl⟩
  · have d1 : decide (checkE (T.st.getD p z4) = 0) = false := decide_eq_false h1
    have hst : ckStep ⟨e, n, m, la, ep⟩ c ⟨(p : Int) + 1, 0, T.st.getD p z4⟩ = .off (ckE ⟨e, n, m, la, ep⟩ ⟨c, 13⟩) := ck_off (nd13 h1) (by decide)
    cases e with
    | false =>
      refine takes_of_treeQ (tabP_plain T) (wPO T) (ckTPo_ok h) (.inr (by kernel_rfl)) (hp_below _) (ck_stf T n m la ep p c) ?_
      simp only [TreeQ.holds, rf_eq, hin, hp0, hwr, hwc, hs0, e1, e2, e3, e4, o4_eta, d1, decide_true, decide_false, Bool.not_false, Bool.not_true, Int.toNat_natCast, Nat.zero_add, Bool.and_self, Bool.and_true, Bool.true_and, true_and, Bool.and_eq_true, decide_eq_true_eq, true_implies, Bool.true_eq_false, Bool.false_eq_true, false_implies, and_true, List.getD_cons_zero, not_false_eq_true, not_true_eq_false]
      have hoff := st_off hst
      refine ⟨by omega, fun hf => ?_, fun hf => ?_⟩ <;> (rw [hoff]; rfl)
    | true =>
      refine takes_of_treeQ (tabP_plain T) (wPO T) (ckTPo_ok h) (.inr (by kernel_rfl)) (hp_below _) (ck_stt T m la ep p c) ?_
      simp only [TreeQ.holds, rf_eq, hin, hp0, hwr, hwc, hs0, e1, e2, e3, e4, o4_eta, d1, decide_true, decide_false, Bool.not_false, Bool.not_true, Int.toNat_natCast, Nat.zero_add, Bool.and_self, Bool.and_true, Bool.true_and, true_and, Bool.and_eq_true, decide_eq_true_eq, true_implies, Bool.true_eq_false, Bool.false_eq_true, false_implies, and_true, List.getD_cons_zero, not_false_eq_true, not_true_eq_false]
      have hoff := st_off hst
      refine ⟨by omega, fun hf => ?_, fun hf => ?_⟩ <;> (rw [hoff]; rfl)
theorem ck_st_end {T : Pt} (h : T.Ok) {w : Pw} (hw : okW T w = true) {c : Int} :
    Takes Try.prog (tabP T) ra base 5 (codeOf 33 (false :: pSt)) (mkT 59 (insSt ckY w.m (T.st.length : Int))) (hp 0 (ckC w c)) fun y => y = (.exit 2, mkT 59 [], hp 0 (ckC w c)) := by
  obtain ⟨he, hn, hm⟩ := okW_iff.1 hw
  obtain ⟨e, n, m, la, ep⟩ := w
  simp only at he hn hm
  have hn' : ¬ ((T.st.length : Int) < (m : Int)) := by omega
  cases e with
  | false =>
    refine takes_of_treeQ (tabP_plain T) (wPO T) (ckTPo_ok h) (.inr (by kernel_rfl)) (hp_below _) (ck_stf T n m la ep (T.st.length : Int) c) ?_
    simp only [TreeQ.holds, rf_eq, hn', decide_false, Bool.false_eq_true, false_implies, true_and, true_implies]
    rfl
  | true =>
    refine takes_of_treeQ (tabP_plain T) (wPO T) (ckTPo_ok h) (.inr (by kernel_rfl)) (hp_below _) (ck_stt T m la ep (T.st.length : Int) c) ?_
    simp only [TreeQ.holds, rf_eq, hn', decide_false, Bool.false_eq_true, false_implies, true_and, true_implies]
    rfl
theorem ck_sts {T : Pt} (h : T.Ok) {w : Pw} (hw : okW T w = true) {s : Int} (hs : 0 ≤ s ∧ s ≤ 10) :
    Takes Try.prog (tabP T) ra base 5 (.loop (codeOf 33 (false :: pSt))) (mkT 59 (insSt ckY w.m 0)) (hp 0 (ckC w s)) fun y => PostQ (ckC w) [] (.exit 2) [] (runS (ckStep w) (stItems T.po 0 T.st) s) y := by
  have h2 := h.st
  rw [← runS_groups]
  refine iter_loopQ (C := ckC w) (step := stStep (ckStep w) T.po) (ins := fun i => insSt ckY w.m (i : Int)) (inv := fun i s => 0 ≤ s ∧ s ≤ ((10 + 5 * i : Nat) : Int)) (groups 0 T.st) ?_ ?_ ?_ hs
  · intro i a s ha hs
    obtain ⟨hi, rfl⟩ := groups_get _ _ _ _ ha
    simp only [Nat.zero_add]
    exact ck_stb h hw hi ⟨hs.1, by have := hs.2; omega⟩
  · intro i a s s' ha hs he
    obtain ⟨hi, rfl⟩ := groups_get _ _ _ _ ha
    have h4 := h.po i
    simp only [Nat.zero_add, stStep] at he
    cases h1 : ckStep w s ⟨(i : Int) + 1, 0, T.st.getD i z4⟩ with
    | off B => rw [h1] at he; cases he
    | on s1 =>
      rw [h1] at he
      rcases ck_kinds (w := w) (itemsAt ((i : Int) + 1) 1 (T.po i)) s1 _ (ck_step hs h1) with ⟨s2, h2, h3, h5⟩ | ⟨e, h2⟩
      · simp only [h2] at he; cases he; rw [itemsAt_length] at h5; exact ⟨h3, by omega⟩
      · simp only [h2] at he; cases he
  · intro s _
    rw [groups_length]
    exact ck_st_end h hw
theorem ck_pres {T : Pt} (h : T.Ok) {w : Pw} (hw : okW T w = true) {s : Int} (hs : 0 ≤ s ∧ s ≤ 0) :
    Takes Try.prog (tabP T) ra base 5 (.loop (codeOf 33 (false :: pPre))) (mkT 59 (insPre ckY ckP w 0)) (hp 0 (ckC w s)) fun y => PostQ (ckC w) [(0, ckY), (1, ckP)] (.exit 0) [(0, ckY), (1, ckP)] (runS (ckStep w) (itemsAt 0 0 T.pre) s) y := by
  have h2 := h.pre
  refine iter_loopQ (C := ckC w) (step := ckStep w) (ins := fun i => insPre ckY ckP w (i : Int)) (inv := fun i s => 0 ≤ s ∧ s ≤ ((0 + i : Nat) : Int)) (itemsAt 0 0 T.pre) ?_ ?_ ?_ hs
  · intro i a s ha hs
    have := (itemsAt_get _ _ _ _ _ ha).1
    exact ck_pre0 h hw ha ⟨hs.1, by have := hs.2; omega⟩
  · intro i a s s' ha hs he
    exact ck_step hs he
  · intro s _
    rw [itemsAt_length]
    exact ck_pre_end h hw
theorem ckT_ok {T : Pt} (h : T.Ok) : ToldsOK Try.prog (tabP T) ra base 5 (ckT T) := by
  refine sumT_ok (sumT_ok noT_ok rfl (toldX_ok (c := .loop (codeOf 33 (false :: pSt))) okBl_eq (by kernel_rfl) fun x hx => ?_)) rfl (toldX_ok (c := .loop (codeOf 33 (false :: pPre))) okBl_eq (by kernel_rfl) fun x hx => ?_)
  · obtain ⟨s, w, p, y⟩ := x
    simp only [ckStD, Bool.and_eq_true, okI_iff] at hx
    exact (ck_sts h hx.2 hx.1).mono fun v hv => ck_two hx.1 hv
  · obtain ⟨s, w, p, y⟩ := x
    simp only [ckPrD, Bool.and_eq_true, okI_iff] at hx
    exact (ck_pres h hx.2 hx.1).mono fun v hv => ck_two hx.1 hv
theorem ck_joinP {T : Pt} {w : Pw} {s s1 : Int} {r : Res Int} (h1 : runS (ckStep w) (itemsAt 0 0 T.pre) s = .on s1) (h2 : runS (ckStep w) (stItems T.po 0 T.st) s1 = r) : runS (ckStep w) (nodesT T) s = r := by
  simp only [nodesT, runS_append, h1]; exact h2
theorem ck_joinE {T : Pt} {w : Pw} {s : Int} {B : List Blk} (h1 : runS (ckStep w) (itemsAt 0 0 T.pre) s = .off B) : runS (ckStep w) (nodesT T) s = .off B := by
  simp only [nodesT, runS_append, h1]
theorem ck_33 {T : Pt} (h : T.Ok) {w : Pw} (hw : okW T w = true) {c : Int} (hs : c = 0) : Gives Try.prog (tabP T) ra base 5 33 [ckY, ckP] (hp 0 (ckC w c)) fun _ h' => (∃ s', runS (ckStep w) (nodesT T) c = .on s' ∧ h' = hp 0 (ckC w s')) ∨ ∃ v, runS (ckStep w) (nodesT T) c = .off (ckE w v) ∧ h' = hp 0 (ckE w v) := by
  have hw' := hw
  have h4 := h.pre
  obtain ⟨he, hn, hm⟩ := okW_iff.1 hw
  obtain ⟨e, n, m, la, ep⟩ := w
  simp only at he hn hm
  subst hs
  have hI : okI 0 0 = true := rfl
  have hI1 : ∀ s', runS (ckStep ⟨e, n, m, la, ep⟩) (itemsAt 0 0 T.pre) 0 = .on s' → okI 10 s' = true := fun s' h1 => by
    rcases ck_kinds (w := ⟨e, n, m, la, ep⟩) (itemsAt 0 0 T.pre) 0 0 ⟨Int.le_refl _, Int.le_refl _⟩ with ⟨s2, h2, h3, h5⟩ | ⟨v, h2⟩
    · rw [h1] at h2; cases h2; rw [itemsAt_length] at h5; exact okI_iff.2 ⟨h3, by omega⟩
    · rw [h1] at h2; cases h2
  cases e with
  | false =>
    refine gives_of_treeQ (tabP_plain T) (wPO T) (ckT_ok h) (hp_below _) (ck_fnf T n m la ep) ?_
    simp only [TreeQ.holds, rf_eq, decide_true, Bool.and_self, Bool.and_true, Bool.true_and, true_and, hw', hI, Bool.and_eq_true, and_true]
    exact ⟨okBl_self rfl, fun s' hs => ⟨okBl_self rfl, hI1 s' hs, fun s'' h2 => ⟨_, rfl, .inl ⟨s'', ck_joinP hs h2, rfl⟩⟩, fun v h2 => ⟨_, rfl, .inr ⟨v, ck_joinP hs h2, rfl⟩⟩⟩, fun v hs => ⟨_, rfl, .inr ⟨v, ck_joinE hs, rfl⟩⟩⟩
  | true =>
    have hn0 : n = 0 := by rw [hn, h.e he.symm]; rfl
    subst hn0
    refine gives_of_treeQ (tabP_plain T) (wPO T) (ckT_ok h) (hp_below _) (ck_fnt T m la ep) ?_
    simp only [TreeQ.holds, rf_eq, decide_true, Bool.and_self, Bool.and_true, Bool.true_and, true_and, hw', hI, Bool.and_eq_true, and_true]
    exact ⟨okBl_self rfl, fun s' hs => ⟨okBl_self rfl, hI1 s' hs, fun s'' h2 => ⟨_, rfl, .inl ⟨s'', ck_joinP hs h2, rfl⟩⟩, fun v h2 => ⟨_, rfl, .inr ⟨v, ck_joinP hs h2, rfl⟩⟩⟩, fun v hs => ⟨_, rfl, .inr ⟨v, ck_joinE hs, rfl⟩⟩⟩
theorem ck_rg {T : Pt} (h : T.Ok) (x : Pw) (hx : (ckD T).pre x = true) : Takes Try.prog (tabP T) ra base 0 (codeOf 7 pCk) (mkT 43 ((ckD T).ins x)) (hp 0 ((ckD T).blks x)) fun y => PostL 43 x y (ckD T).alts := by
  have hs : codeOf 7 pCk = .rangeFunc (.tmp 25) #[26, 27] (rfAs 7 pCk) (rfBd 7 pCk) := by kernel_rfl
  refine takes_range (tabP_plain T) Try.names hs (f := 33) (cap := [.ptr (.own 3 0 0 0)]) rfl ⟨_, Try.func33, by kernel_rfl⟩ (Nat.zero_le _) ?_
  refine (ck_33 h hx rfl).mono fun v h' hh => ?_
  rcases hh with ⟨s', hs', rfl⟩ | ⟨v, hs', rfl⟩
  · exact ⟨_, _, _, _, .ready, .normal, [0, 1], 12, _, rfl, rfl, rfl, .inl ⟨s', hs', rfl⟩⟩
  · exact ⟨_, _, _, _, .done, .ret, [0, 1], 12, _, rfl, rfl, rfl, .inr ⟨v, hs', rfl⟩⟩
theorem ckTR_ok {T : Pt} (h : T.Ok) : ToldsOK Try.prog (tabP T) ra base 0 (ckTR T) :=
  sumT_ok noT_ok rfl (toldR_ok (c := codeOf 7 pCk) (by kernel_rfl) fun x hx => ck_rg h x hx)
theorem stage_gives {T : Pt} (h : T.Ok) {w : Pw} (hw : okW T w = true) {c : Int} (hs : 0 ≤ c ∧ c ≤ 1000) : Gives Try.prog (tabP T) ra base 0 11 [w.v, .int .i64 c] (hp 0 []) fun v h' => (∃ s', runS (sgStep w) (nodesT T) c = .on s' ∧ v = .int .i64 (-1) ∧ h' = hp 0 []) ∨ ∃ e, runS (sgStep w) (nodesT T) c = .off (sgE w e) ∧ v = .int .i64 e ∧ h' = hp 0 [] := by
  have hw' := hw
  obtain ⟨he, hn, hm⟩ := okW_iff.1 hw
  obtain ⟨e, n, m, la, ep⟩ := w
  simp only at he hn hm
  have hI : okI 1000 c = true := okI_iff.2 hs
  cases e with
  | false =>
    refine gives_of_treeQ (tabP_plain T) (wP T) (sgTR_ok h) (hp_below _) (stagef T n m la ep c) ?_
    simp only [TreeQ.holds, rf_eq, decide_true, Bool.and_self, Bool.and_true, Bool.true_and, true_and, hw', hI, Bool.and_eq_true, and_true]
    exact ⟨fun s' hs => ⟨_, rfl, .inl ⟨s', hs, rfl, rfl⟩⟩, fun v hs => ⟨_, rfl, .inr ⟨v, hs, rfl, rfl⟩⟩⟩
  | true =>
    have hn0 : n = 0 := by rw [hn, h.e he.symm]; rfl
    subst hn0
    refine gives_of_treeQ (tabP_plain T) (wP T) (sgTR_ok h) (hp_below _) (staget T m la ep c) ?_
    simp only [TreeQ.holds, rf_eq, decide_true, Bool.and_self, Bool.and_true, Bool.true_and, true_and, hw', hI, Bool.and_eq_true, and_true]
    exact ⟨fun s' hs => ⟨_, rfl, .inl ⟨s', hs, rfl, rfl⟩⟩, fun v hs => ⟨_, rfl, .inr ⟨v, hs, rfl, rfl⟩⟩⟩
end
end Go.Proofs.Ytompijagcjjamaa

namespace Go.Proofs.Ytompijagcjjamaa
open Ab
def thG (r : Rt) : List Nd → Ls → Ls
  | [], s => s
  | a :: L, s => thG r L ⟨match r.ok a with
    | true => s.l ++ [s.n]
    | false => s.l, s.n + 1⟩
def thAll (T : Pt) (r : Rt) : List Int := (thG r (nodesT T) ⟨[], 0⟩).l
def isNil (l : List Int) : Bool := match l with
  | [] => true
  | _ => false
def thNil (T : Pt) (x : ThW) : Bool := isNil (thAll T x.r)
def thCN (T : Pt) (d : Nat) : CDeal ThW := ⟨fun x => [x.w.v, x.r.fn], fun x => x.r.num, fun x => okRd d x.r && (okW T x.w && thNil T x), fun _ => .nils, fun x => x.r.num⟩
def thCO (T : Pt) (d : Nat) : CDeal ThW := ⟨fun x => [x.w.v, x.r.fn], fun x => x.r.num, fun x => okRd d x.r && (okW T x.w && !thNil T x), fun x => .slice (.own d 0 0 1) (thAll T x.r).length none, fun x => x.r.num ++ [intsB (thAll T x.r)]⟩
def thCD (us : List AVal) (Bs : List Blk) : Option ThW := match us, Bs with
  | [v, .fn _ []], _ => match pwOfV v with
    | some w => some ⟨.pr, w⟩
    | none => none
  | [v, .fn f _], [.segs [⟨_, _, [.int _ [z]]⟩]] => match pwOfV v with
    | some w => some ⟨rtOf f z, w⟩
    | none => none
  | _, _ => none
def S24 (T : Pt) (d : Nat) : Sums := sumF 24 (callNG [(thNil T, thCN T d)] (thCO T d) thCD) noS
end Go.Proofs.Ytompijagcjjamaa

namespace Go.Proofs.Ytompijagcjjamaa
open Ab
theorem fpref (T : Pt) (n m : Nat) (la ep : Int) : ((callB Try.prog (tabP T) (S24 T 0) (W (tabP T) (S24 T 0) noL) 9 [Pw.v ⟨false, n, m, la, ep⟩]).full ⟨hp 0 [], 0, [], []⟩ leafV).take 0 (.x (.c (.n (.n (.leaf [] 1)))) (.c (.n (.n (.leaf [1] 1))))) =
(let i0 : Bool := (rf n && true && (rf m && true && (rf la && (rf ep && true))) && true && true)
(.br (thNil T { r := Rt.pr, w := { e := false, n := n, m := m, la := la, ep := ep } }) (.need i0 (.need (okW T { e := false, n := n, m := m, la := la, ep := ep } && thNil T { r := Rt.pr, w := { e := false, n := n, m := m, la := la, ep := ep } }) (.leaf (.ret, mkT 1 [(0, .nils)], [])))) (.need i0 (.need (okW T { e := false, n := n, m := m, la := la, ep := ep } && !thNil T { r := Rt.pr, w := { e := false, n := n, m := m, la := la, ep := ep } }) (.leaf (.ret, mkT 1 [(0, .slice (.own 0 0 0 1) (List.length (thAll T Rt.pr)) none)], [(0, some (.segs [⟨List.length (thAll T Rt.pr), 1, [.int .i64 (thAll T Rt.pr)]⟩]))])))))) := by kernel_rfl
theorem fpret (T : Pt) (m : Nat) (la ep : Int) : ((callB Try.prog (tabP T) (S24 T 0) (W (tabP T) (S24 T 0) noL) 9 [Pw.v ⟨true, 0, m, la, ep⟩]).full ⟨hp 0 [], 0, [], []⟩ leafV).take 0 (.x (.c (.n (.n (.leaf [] 1)))) (.c (.n (.n (.leaf [1] 1))))) =
(let i0 : Bool := (rf m && true && (rf la && (rf ep && true)) && true && true)
(.br (thNil T { r := Rt.pr, w := { e := true, n := 0, m := m, la := la, ep := ep } }) (.need i0 (.need (okW T { e := true, n := 0, m := m, la := la, ep := ep } && thNil T { r := Rt.pr, w := { e := true, n := 0, m := m, la := la, ep := ep } }) (.leaf (.ret, mkT 1 [(0, .nils)], [])))) (.need i0 (.need (okW T { e := true, n := 0, m := m, la := la, ep := ep } && !thNil T { r := Rt.pr, w := { e := true, n := 0, m := m, la := la, ep := ep } }) (.leaf (.ret, mkT 1 [(0, .slice (.own 0 0 0 1) (List.length (thAll T Rt.pr)) none)], [(0, some (.segs [⟨List.length (thAll T Rt.pr), 1, [.int .i64 (thAll T Rt.pr)]⟩]))])))))) := by kernel_rfl
theorem foff (T : Pt) (n m : Nat) (la ep z : Int) : ((callB Try.prog (tabP T) (S24 T 1) (W (tabP T) (S24 T 1) noL) 10 [Pw.v ⟨false, n, m, la, ep⟩, .int .i64 z]).full ⟨hp 0 [], 0, [], []⟩ leafV).take 0 (.x (.n (.n (.n (.c (.leaf [] 1))))) (.n (.n (.n (.x (.n (.n (.leaf [] 1))) (.leaf [] 1)))))) =
(let i0 : Bool := (rf n && true && (rf m && true && (rf la && (rf ep && true))) && true && true)
let j0 := (thAll T (rtOf 26 z))
(.br (thNil T { r := rtOf 26 z, w := { e := false, n := n, m := m, la := la, ep := ep } }) (.need (rf [z] && true && true && true && true) (.need i0 (.need (okW T { e := false, n := n, m := m, la := la, ep := ep } && thNil T { r := rtOf 26 z, w := { e := false, n := n, m := m, la := la, ep := ep } }) (.leaf (.ret, mkT 1 [(0, .int .i64 (-1))], []))))) (.need (rf [z] && true && true && true && true) (.need i0 (.need (okW T { e := false, n := n, m := m, la := la, ep := ep } && !thNil T { r := rtOf 26 z, w := { e := false, n := n, m := m, la := la, ep := ep } }) (.br (decide (0 < (↑(List.length j0) : Int))) (.need (decide (0 < (↑(List.length j0) : Int))) (.need (decide (0 < List.length j0)) (.leaf (.ret, mkT 1 [(0, .int .i64 (List.getD j0 0 0))], [])))) (.leaf (.ret, mkT 1 [(0, .int .i64 (-1))], [])))))))) := by kernel_rfl
theorem foft (T : Pt) (m : Nat) (la ep z : Int) : ((callB Try.prog (tabP T) (S24 T 1) (W (tabP T) (S24 T 1) noL) 10 [Pw.v ⟨true, 0, m, la, ep⟩, .int .i64 z]).full ⟨hp 0 [], 0, [], []⟩ leafV).take 0 (.x (.n (.n (.n (.c (.leaf [] 1))))) (.n (.n (.n (.x (.n (.n (.leaf [] 1))) (.leaf [] 1)))))) =
(let i0 := (thAll T (rtOf 26 z))
let j0 : Bool := (rf m && true && (rf la && (rf ep && true)) && true && true)
(.br (thNil T { r := rtOf 26 z, w := { e := true, n := 0, m := m, la := la, ep := ep } }) (.need (rf [z] && true && true && true && true) (.need j0 (.need (okW T { e := true, n := 0, m := m, la := la, ep := ep } && thNil T { r := rtOf 26 z, w := { e := true, n := 0, m := m, la := la, ep := ep } }) (.leaf (.ret, mkT 1 [(0, .int .i64 (-1))], []))))) (.need (rf [z] && true && true && true && true) (.need j0 (.need (okW T { e := true, n := 0, m := m, la := la, ep := ep } && !thNil T { r := rtOf 26 z, w := { e := true, n := 0, m := m, la := la, ep := ep } }) (.br (decide (0 < (↑(List.length i0) : Int))) (.need (decide (0 < (↑(List.length i0) : Int))) (.need (decide (0 < List.length i0)) (.leaf (.ret, mkT 1 [(0, .int .i64 (List.getD i0 0 0))], [])))) (.leaf (.ret, mkT 1 [(0, .int .i64 (-1))], [])))))))) := by kernel_rfl
theorem fpof (T : Pt) (n m : Nat) (la ep z : Int) : ((callB Try.prog (tabP T) (S24 T 1) (W (tabP T) (S24 T 1) noL) 13 [Pw.v ⟨false, n, m, la, ep⟩, .int .i64 z]).full ⟨hp 0 [], 0, [], []⟩ leafV).take 0 (.x (.n (.n (.n (.leaf [] 1)))) (.n (.n (.n (.leaf [2] 1))))) =
(let i0 : Bool := (rf n && true && (rf m && true && (rf la && (rf ep && true))) && true && true)
(.br (thNil T { r := rtOf 28 z, w := { e := false, n := n, m := m, la := la, ep := ep } }) (.need (rf [z] && true && true && true && true) (.need i0 (.need (okW T { e := false, n := n, m := m, la := la, ep := ep } && thNil T { r := rtOf 28 z, w := { e := false, n := n, m := m, la := la, ep := ep } }) (.leaf (.ret, mkT 1 [(0, .nils)], []))))) (.need (rf [z] && true && true && true && true) (.need i0 (.need (okW T { e := false, n := n, m := m, la := la, ep := ep } && !thNil T { r := rtOf 28 z, w := { e := false, n := n, m := m, la := la, ep := ep } }) (.leaf (.ret, mkT 1 [(0, .slice (.own 0 0 0 1) (List.length (thAll T (rtOf 28 z))) none)], [(0, some (.segs [⟨List.length (thAll T (rtOf 28 z)), 1, [.int .i64 (thAll T (rtOf 28 z))]⟩]))]))))))) := by kernel_rfl
theorem fpot (T : Pt) (m : Nat) (la ep z : Int) : ((callB Try.prog (tabP T) (S24 T 1) (W (tabP T) (S24 T 1) noL) 13 [Pw.v ⟨true, 0, m, la, ep⟩, .int .i64 z]).full ⟨hp 0 [], 0, [], []⟩ leafV).take 0 (.x (.n (.n (.n (.leaf [] 1)))) (.n (.n (.n (.leaf [2] 1))))) =
(let i0 : Bool := (rf m && true && (rf la && (rf ep && true)) && true && true)
(.br (thNil T { r := rtOf 28 z, w := { e := true, n := 0, m := m, la := la, ep := ep } }) (.need (rf [z] && true && true && true && true) (.need i0 (.need (okW T { e := true, n := 0, m := m, la := la, ep := ep } && thNil T { r := rtOf 28 z, w := { e := true, n := 0, m := m, la := la, ep := ep } }) (.leaf (.ret, mkT 1 [(0, .nils)], []))))) (.need (rf [z] && true && true && true && true) (.need i0 (.need (okW T { e := true, n := 0, m := m, la := la, ep := ep } && !thNil T { r := rtOf 28 z, w := { e := true, n := 0, m := m, la := la, ep := ep } }) (.leaf (.ret, mkT 1 [(0, .slice (.own 0 0 0 1) (List.length (thAll T (rtOf 28 z))) none)], [(0, some (.segs [⟨List.length (thAll T (rtOf 28 z)), 1, [.int .i64 (thAll T (rtOf 28 z))]⟩]))]))))))) := by kernel_rfl
end Go.Proofs.Ytompijagcjjamaa

namespace Go.Proofs.Ytompijagcjjamaa
open Ab
theorem runS_thG (r : Rt) : ∀ (L : List Nd) (s : Ls), runS (thStep r) L s = .on (thG r L s)
  | [], _ => rfl
  | a :: L, s => by
    simp only [runS, thStep, thG]
    exact runS_thG r L _
theorem thAP_eq {T : Pt} {r : Rt} {s' : Ls} (h : thAP T r s') : s'.l = thAll T r ∧ isNil (thAll T r) = false := by
  obtain ⟨h1, h2⟩ := h
  simp only [thR, runS_thG, Res.on.injEq] at h1
  rw [← h1] at h2 ⊢
  refine ⟨rfl, ?_⟩
  cases hl : thAll T r with
  | nil => exact absurd hl h2
  | cons => rfl
theorem thAN_eq {T : Pt} {r : Rt} {n : Int} (h : thAN T r n) : thAll T r = [] := by
  simp only [thAN, thR, runS_thG, Res.on.injEq] at h
  rw [thAll, h]
section
variable {ra : Nat → Nat → Nat × Nat} {base : Nat}
theorem those_gives {T : Pt} (h : T.Ok) {w : Pw} (hw : okW T w = true) (r : Rt) : Gives Try.prog (tabP T) ra base r.d 24 [w.v, r.fn] (hp 0 r.num) fun v h' => (isNil (thAll T r) = true ∧ v = .nils ∧ h' = hp 0 r.num) ∨ (isNil (thAll T r) = false ∧ v = .slice (.own r.d 0 0 1) (thAll T r).length none ∧ h' = hp 0 (r.num ++ [intsB (thAll T r)])) := by
  have key : ∀ (v : AVal) (h' : Log), ((∃ s', thAP T r s' ∧ v = .slice (.own r.d 0 0 1) s'.l.length none ∧ h' = hp 0 (r.num ++ [intsB s'.l])) ∨ ∃ n, thAN T r n ∧ v = .nils ∧ h' = hp 0 r.num) →
      ((isNil (thAll T r) = true ∧ v = .nils ∧ h' = hp 0 r.num) ∨ (isNil (thAll T r) = false ∧ v = .slice (.own r.d 0 0 1) (thAll T r).length none ∧ h' = hp 0 (r.num ++ [intsB (thAll T r)]))) := by
    rintro v h' (⟨s', h1, h2, h3⟩ | ⟨n, h1, h2, h3⟩)
    · obtain ⟨e1, e2⟩ := thAP_eq h1
      rw [e1] at h2 h3
      exact .inr ⟨e2, h2, h3⟩
    · exact .inl ⟨by rw [thAN_eq h1]; rfl, h2, h3⟩
  cases r with
  | pr => exact (thosep_gives h hw).mono key
  | st z => exact (thoseo_gives h hw z).mono key
  | po z => exact (thoseq_gives h hw z).mono key
theorem S24_ok {T : Pt} (h : T.Ok) (d : Nat) : SumsOK Try.prog (tabP T) ra base (S24 T d) := by
  refine sumNG_deal (tabP_plain T) noS_ok ⟨_, Try.func24, by kernel_rfl⟩ (fun q hq => ?_) ?_
  · simp only [List.mem_singleton] at hq
    subst hq
    rintro ⟨r, w⟩ hx
    simp only [thCN, Bool.and_eq_true, okRd, decide_eq_true_eq] at hx
    obtain ⟨hr, hw, hn⟩ := hx
    show Gives _ _ _ _ (Rt.num r).length 24 _ _ _
    have hl : (Rt.num r).length = r.d := by cases r <;> rfl
    rw [hl]
    refine (those_gives h hw r).mono fun v h' hh => ?_
    rcases hh with ⟨_, h2, h3⟩ | ⟨h1, _⟩
    · exact ⟨h2, h3⟩
    · have : isNil (thAll T r) = true := hn
      rw [h1] at this; cases this
  · rintro ⟨r, w⟩ hx
    simp only [thCO, Bool.and_eq_true, okRd, decide_eq_true_eq, Bool.not_eq_true'] at hx
    obtain ⟨hr, hw, hn⟩ := hx
    show Gives _ _ _ _ (Rt.num r).length 24 _ _ _
    have hl : (Rt.num r).length = r.d := by cases r <;> rfl
    rw [hl]
    refine (those_gives h hw r).mono fun v h' hh => ?_
    rcases hh with ⟨h1, _⟩ | ⟨_, h2, h3⟩
    · have : isNil (thAll T r) = false := hn
      rw [h1] at this; cases this
    · exact ⟨by rw [h2, hr]; rfl, h3⟩
theorem isNil_false {l : List Int} (h : isNil l = false) : l ≠ [] ∧ 0 < l.length := by
  cases l with
  | nil => cases h
  | cons => exact ⟨by simp, by simp⟩
theorem pre_gives {T : Pt} (h : T.Ok) {w : Pw} (hw : okW T w = true) : Gives Try.prog (tabP T) ra base 0 9 [w.v] (hp 0 []) fun v h' => (isNil (thAll T .pr) = true → v = .nils ∧ h' = hp 0 []) ∧ (isNil (thAll T .pr) = false → v = .slice (.own 0 0 0 1) (thAll T .pr).length none ∧ h' = hp 0 [intsB (thAll T .pr)]) := by
  have hw' := hw
  have hS := S24_ok (ra := ra) (base := base) h 0
  obtain ⟨he, hn, hm⟩ := okW_iff.1 hw
  obtain ⟨e, n, m, la, ep⟩ := w
  simp only at he hn hm
  cases e with
  | false =>
    refine (gives_of_tree (tabP_plain T) (W_ok hS noL_ok) hS (hp_below _) (fpref T n m la ep) ?_).2
    simp only [Tree.holds, rf_eq, decide_true, Bool.and_self, Bool.and_true, Bool.true_and, true_and, hw', Bool.and_eq_true, and_true, Bool.not_eq_true']
    exact ⟨fun h1 => ⟨h1, _, rfl, fun _ => ⟨rfl, rfl⟩, fun h2 => by have h1 : isNil (thAll T .pr) = true := h1; rw [h2] at h1; cases h1⟩,
      fun h1 => ⟨h1, _, rfl, fun h2 => (by have h1 : isNil (thAll T .pr) = false := h1; rw [h2] at h1; cases h1), fun _ => ⟨rfl, rfl⟩⟩⟩
  | true =>
    have hn0 : n = 0 := by rw [hn, h.e he.symm]; rfl
    subst hn0
    refine (gives_of_tree (tabP_plain T) (W_ok hS noL_ok) hS (hp_below _) (fpret T m la ep) ?_).2
    simp only [Tree.holds, rf_eq, decide_true, Bool.and_self, Bool.and_true, Bool.true_and, true_and, hw', Bool.and_eq_true, and_true, Bool.not_eq_true']
    exact ⟨fun h1 => ⟨h1, _, rfl, fun _ => ⟨rfl, rfl⟩, fun h2 => by have h1 : isNil (thAll T .pr) = true := h1; rw [h2] at h1; cases h1⟩,
      fun h1 => ⟨h1, _, rfl, fun h2 => (by have h1 : isNil (thAll T .pr) = false := h1; rw [h2] at h1; cases h1), fun _ => ⟨rfl, rfl⟩⟩⟩
theorem post_gives {T : Pt} (h : T.Ok) {w : Pw} (hw : okW T w = true) (z : Int) : Gives Try.prog (tabP T) ra base 0 13 [w.v, .int .i64 z] (hp 0 []) fun v h' => (isNil (thAll T (.po z)) = true → v = .nils ∧ h' = hp 0 []) ∧ (isNil (thAll T (.po z)) = false → v = .slice (.own 0 0 0 1) (thAll T (.po z)).length none ∧ h' = hp 0 [intsB (thAll T (.po z))]) := by
  have hw' := hw
  have hS := S24_ok (ra := ra) (base := base) h 1
  obtain ⟨he, hn, hm⟩ := okW_iff.1 hw
  obtain ⟨e, n, m, la, ep⟩ := w
  simp only at he hn hm
  cases e with
  | false =>
    refine (gives_of_tree (tabP_plain T) (W_ok hS noL_ok) hS (hp_below _) (fpof T n m la ep z) ?_).2
    simp only [Tree.holds, rf_eq, decide_true, Bool.and_self, Bool.and_true, Bool.true_and, true_and, hw', Bool.and_eq_true, and_true, Bool.not_eq_true']
    exact ⟨fun h1 => ⟨h1, _, rfl, fun _ => ⟨rfl, rfl⟩, fun h2 => by have h1 : isNil (thAll T (.po z)) = true := h1; rw [h2] at h1; cases h1⟩,
      fun h1 => ⟨h1, _, rfl, fun h2 => (by have h1 : isNil (thAll T (.po z)) = false := h1; rw [h2] at h1; cases h1), fun _ => ⟨rfl, rfl⟩⟩⟩
  | true =>
    have hn0 : n = 0 := by rw [hn, h.e he.symm]; rfl
    subst hn0
    refine (gives_of_tree (tabP_plain T) (W_ok hS noL_ok) hS (hp_below _) (fpot T m la ep z) ?_).2
    simp only [Tree.holds, rf_eq, decide_true, Bool.and_self, Bool.and_true, Bool.true_and, true_and, hw', Bool.and_eq_true, and_true, Bool.not_eq_true']
    exact ⟨fun h1 => ⟨h1, _, rfl, fun _ => ⟨rfl, rfl⟩, fun h2 => by have h1 : isNil (thAll T (.po z)) = true := h1; rw [h2] at h1; cases h1⟩,
      fun h1 => ⟨h1, _, rfl, fun h2 => (by have h1 : isNil (thAll T (.po z)) = false := h1; rw [h2] at h1; cases h1), fun _ => ⟨rfl, rfl⟩⟩⟩
theorem of_gives {T : Pt} (h : T.Ok) {w : Pw} (hw : okW T w = true) (z : Int) (hz : isNil (thAll T (.st z)) = false) : Gives Try.prog (tabP T) ra base 0 10 [w.v, .int .i64 z] (hp 0 []) fun v h' => v = .int .i64 ((thAll T (.st z)).getD 0 0) ∧ h' = hp 0 [] := by
  have hw' := hw
  have hS := S24_ok (ra := ra) (base := base) h 1
  obtain ⟨he, hn, hm⟩ := okW_iff.1 hw
  obtain ⟨hl0, hl⟩ := isNil_false hz
  have hz1 : ∀ w, thNil T ⟨rtOf 26 z, w⟩ = false := fun w => hz
  have hl' : (0 : Int) < ((thAll T (rtOf 26 z)).length : Int) := by
    show (0 : Int) < ((thAll T (.st z)).length : Int)
    omega
  have hl1 : 0 < (thAll T (rtOf 26 z)).length := hl
  obtain ⟨e, n, m, la, ep⟩ := w
  simp only at he hn hm
  cases e with
  | false =>
    refine (gives_of_tree (tabP_plain T) (W_ok hS noL_ok) hS (hp_below _) (foff T n m la ep z) ?_).2
    simp only [Tree.holds, rf_eq, decide_true, Bool.and_self, Bool.and_true, Bool.true_and, true_and, hw', hz1, hl', hl1, Bool.and_eq_true, and_true, Bool.not_false, Bool.false_eq_true, Bool.true_eq_false, false_implies, true_implies]
    exact ⟨_, rfl, rfl, rfl⟩
  | true =>
    have hn0 : n = 0 := by rw [hn, h.e he.symm]; rfl
    subst hn0
    refine (gives_of_tree (tabP_plain T) (W_ok hS noL_ok) hS (hp_below _) (foft T m la ep z) ?_).2
    simp only [Tree.holds, rf_eq, decide_true, Bool.and_self, Bool.and_true, Bool.true_and, true_and, hw', hz1, hl', hl1, Bool.and_eq_true, and_true, Bool.not_false, Bool.false_eq_true, Bool.true_eq_false, false_implies, true_implies]
    exact ⟨_, rfl, rfl, rfl⟩
theorem lg_takes {T : Pt} (h : T.Ok) {m : Nat} (hm : m = T.st.length) : Takes Try.prog (tabP T) ra base 0 (.loop (codeOf 20 (false :: pLg))) (mkT 38 (insLg m 0)) (hp 0 []) fun y => y = (.exit 0, mkT 38 [(3, .bool false)], hp 0 []) := by
  have h2 := h.st
  refine takes_loop (fun j ts hh => ∃ i : Nat, i ≤ m ∧ i + j = m + 1 ∧ ts = mkT 38 (insLg m (i : Int)) ∧ hh = hp 0 []) ?_ ?_ (j := m + 1) ⟨0, Nat.zero_le _, Nat.zero_add _, rfl, rfl⟩
  · rintro ts hh ⟨i, h1, h3, _⟩; omega
  · rintro j ts hh ⟨i, hi0, h1, rfl, rfl⟩
    have hwr : wr .i64 ((i : Int) + 1) = ((i + 1 : Nat) : Int) := by rw [wr_in ⟨by omega, by omega⟩]; omega
    refine takes_of_tree (tabP_plain T) (wPO T) (.inr (by kernel_rfl)) (hp_below _) (lg_round T m i) ?_
    simp only [Tree.holds, rf_eq, Int.toNat_natCast, Nat.zero_add, hwr, decide_eq_true_eq, decide_eq_false_iff_not, Bool.and_eq_true]
    refine ⟨fun hi => ⟨⟨by omega, hi⟩, by omega, fun hf => ⟨i + 1, by omega, by omega, rfl, rfl⟩, fun hf => ?_⟩, fun hi => rfl⟩
    have hq := h.ns i (by omega) hf
    have hp4 := h.po i
    have : ¬ (4 < ((T.ns.getD i 0 : Nat) : Int)) := by rw [hq]; omega
    rw [decide_eq_false this]
    exact ⟨i + 1, by omega, by omega, rfl, rfl⟩
theorem lgT_ok {T : Pt} (h : T.Ok) : ToldsOK Try.prog (tabP T) ra base 0 (lgT T) :=
  sumT_ok noT_ok rfl (toldR_ok (c := .loop (codeOf 20 (false :: pLg))) (by kernel_rfl) fun m hm => (lg_takes h (of_decide_eq_true hm)).mono fun y hy => ⟨(), trivial, hy⟩)
theorem long_gives {T : Pt} (h : T.Ok) (h0 : T.st ≠ []) {w : Pw} (hw : okW T w = true) : Gives Try.prog (tabP T) ra base 0 20 [w.v] (hp 0 []) fun v h' => v = .bool false ∧ h' = hp 0 [] := by
  obtain ⟨he, hn, hm⟩ := okW_iff.1 hw
  have h4 := h.pre
  have h2 := h.st
  have hst : T.st.length ≠ 0 := fun e => h0 (List.length_eq_zero_iff.1 e)
  obtain ⟨e, n, m, la, ep⟩ := w
  simp only at he hn hm
  have c1 : ¬ (4 < (n : Int)) := by omega
  have c2 : ¬ ((m : Int) = 0) := by omega
  have c3 : ¬ (2 < (m : Int)) := by omega
  subst hm
  cases e with
  | false =>
    refine gives_of_treeQ (tabP_plain T) (wPO T) (lgT_ok h) (hp_below _) (longf T n T.st.length la ep) ?_
    simp only [TreeQ.holds, rf_eq, c1, c2, c3, decide_false, decide_true, Bool.and_self, Bool.and_true, Bool.true_and, true_and, Bool.false_eq_true, false_implies, true_implies, and_true]
    exact fun _ => ⟨_, rfl, rfl, rfl⟩
  | true =>
    have hn0 : n = 0 := by rw [hn, h.e he.symm]; rfl
    subst hn0
    refine gives_of_treeQ (tabP_plain T) (wPO T) (lgT_ok h) (hp_below _) (longt T T.st.length la ep) ?_
    simp only [TreeQ.holds, rf_eq, c1, c2, c3, decide_false, decide_true, Bool.and_self, Bool.and_true, Bool.true_and, true_and, Bool.false_eq_true, false_implies, true_implies, and_true]
    exact fun _ => ⟨_, rfl, rfl, rfl⟩
theorem SC_ok {T : Pt} (h : T.Ok) (h0 : T.st ≠ []) : SumsOK Try.prog (tabP T) ra base (SC T) :=
  sumG_deal (tabP_plain T) (SO_ok (tabP_plain T)) ⟨_, Try.func20, by kernel_rfl⟩ fun w hw => long_gives h h0 hw
theorem check2_gives {T : Pt} (h : T.Ok) (h0 : T.st ≠ []) {w : Pw} (hw : okW T w = true) (h1 : 0 ≤ w.la ∧ w.la ≤ 1073741824) (h2 : 1 ≤ w.ep ∧ w.ep ≤ 1073741824) : Gives Try.prog (tabP T) ra base 0 7 [w.v] (hp 0 []) fun v h' => h' = hp 0 [] ∧ ((∃ s', runS (ckStep w) (nodesT T) 0 = .on s' ∧ v = .tup [.int .i64 (-1), .int .i64 0]) ∨ ∃ e, runS (ckStep w) (nodesT T) 0 = .off (ckE w e) ∧ v = .tup [.int .i64 e.n, .int .i64 e.e]) := by
  have hw' := hw
  obtain ⟨he, hn, hm⟩ := okW_iff.1 hw
  obtain ⟨e, n, m, la, ep⟩ := w
  simp only at he hn hm h1 h2
  have c1 : ¬ la < 0 := by omega
  have c2 : ¬ 1073741824 < la := by omega
  have c3 : ¬ ep < 1 := by omega
  have c4 : ¬ 1073741824 < ep := by omega
  cases e with
  | false =>
    refine gives_of_treeQ (tabP_plain T) (W_ok (SC_ok h h0) noL_ok) (ckTR_ok h) (hp_below _) (checkf T n m la ep) ?_
    simp only [TreeQ.holds, rf_eq, c1, c2, c3, c4, hw', decide_false, decide_true, Bool.and_self, Bool.and_true, Bool.true_and, true_and, Bool.false_eq_true, false_implies, true_implies, and_true]
    exact ⟨fun s' hs => ⟨_, rfl, rfl, .inl ⟨s', hs, rfl⟩⟩, fun e hs => ⟨_, rfl, rfl, .inr ⟨e, hs, rfl⟩⟩⟩
  | true =>
    have hn0 : n = 0 := by rw [hn, h.e he.symm]; rfl
    subst hn0
    refine gives_of_treeQ (tabP_plain T) (W_ok (SC_ok h h0) noL_ok) (ckTR_ok h) (hp_below _) (checkt T m la ep) ?_
    simp only [TreeQ.holds, rf_eq, c1, c2, c3, c4, hw', decide_false, decide_true, Bool.and_self, Bool.and_true, Bool.true_and, true_and, Bool.false_eq_true, false_implies, true_implies, and_true]
    exact ⟨fun s' hs => ⟨_, rfl, rfl, .inl ⟨s', hs, rfl⟩⟩, fun e hs => ⟨_, rfl, rfl, .inr ⟨e, hs, rfl⟩⟩⟩
end
end Go.Proofs.Ytompijagcjjamaa

namespace Go.Proofs.Ytompijagcjjamaa
open Ab
structure Sh where
  e : Bool
  f : Bool
  t : Bool
  u : Bool
structure Pl where
  pre : List O4
  o1 : O4
  q1 : List O4
  o2 : O4
  q2 : List O4
  la : Int
  ep : Int
def Sh.iS (h : Sh) : Nat := cond h.e 0 1
def Sh.m (h : Sh) : Nat := cond h.t 2 1
def Sh.i1 (h : Sh) : Nat := cond h.e 1 2
def Sh.i2 (h : Sh) : Nat := cond h.e (cond h.f 1 2) (cond h.f 2 3)
def slV (nil : Bool) (i n : Nat) : AVal := match nil with
  | true => .nils
  | false => .slice (.own i 0 0 4) n none
def stsV (h : Sh) : AVal := .slice (.own h.iS 0 0 5) h.m none
def Pl.v (h : Sh) (y : Pl) : AVal := .agg [slV h.e 0 y.pre.length, stsV h, .int .i64 y.la, .int .i64 y.ep]
def Pl.col (h : Sh) (y : Pl) : Col := match h.t with
  | false => match h.f with
    | true => .nilc 1
    | false => .val [slV false h.i1 y.q1.length]
  | true => match h.f with
    | true => match h.u with
      | true => .nilc 2
      | false => .val [.nils, slV false h.i2 y.q2.length]
    | false => .val [slV false h.i1 y.q1.length, slV h.u h.i2 y.q2.length]
def Pl.stB (h : Sh) (y : Pl) : Blk := match h.t with
  | false => .segs [⟨1, 5, [.int .i64 [y.o1.k], .int .i64 [y.o1.a], .int .i64 [y.o1.b], .int .i64 [y.o1.g], y.col h]⟩]
  | true => .segs [⟨2, 5, [.int .i64 [y.o1.k, y.o2.k], .int .i64 [y.o1.a, y.o2.a], .int .i64 [y.o1.b, y.o2.b], .int .i64 [y.o1.g, y.o2.g], y.col h]⟩]
def lsB (nil : Bool) (l : List O4) : List Blk := match nil with
  | true => []
  | false => [opsB l]
def Pl.blks (h : Sh) (y : Pl) : List Blk := lsB h.e y.pre ++ ([y.stB h] ++ (lsB h.f y.q1 ++ match h.t with
  | true => lsB h.u y.q2
  | false => []))
def Sh.n (h : Sh) : Nat := cond h.e 0 1 + (1 + (cond h.f 0 1 + cond h.t (cond h.u 0 1) 0))
def Pl.T (h : Sh) (y : Pl) : Pt := ⟨h.e, y.pre, match h.t with
  | true => [y.o1, y.o2]
  | false => [y.o1], match h.t with
  | true => [y.q1.length, y.q2.length]
  | false => [y.q1.length], match h.t with
  | true => [h.f, h.u]
  | false => [h.f], fun p => match p with
  | 0 => y.q1
  | 1 => match h.t with
    | true => y.q2
    | false => []
  | _ => [], y.la, y.ep⟩
def Pl.w (h : Sh) (y : Pl) : Pw := ⟨h.e, y.pre.length, h.m, y.la, y.ep⟩
def Sh.pl (h : Sh) (t p : Nat) : Option Nat := match t with
  | 0 => cond h.e none (some 0)
  | 1 => some h.iS
  | 2 => match p with
    | 0 => cond h.f none (some h.i1)
    | 1 => cond h.t (cond h.u none (some h.i2)) none
    | _ => none
  | _ => none
structure Pl.Ok (h : Sh) (y : Pl) : Prop where
  e : h.e = true → y.pre = []
  f : h.f = true → y.q1 = []
  u : h.t = true → h.u = true → y.q2 = []
  pre : y.pre.length ≤ 4
  q1 : y.q1.length ≤ 4
  q2 : y.q2.length ≤ 4
end Go.Proofs.Ytompijagcjjamaa
