/- oper: OperParts: the parts' loop, by shape. -/
import Derived.Test.YtbfebjmmpiffpaaP04m
import Derived.Test.YtbfebjmmpiffpaaT04p
set_option linter.unusedSimpArgs false
set_option linter.unusedVariables false
namespace Go.Proofs.Ytbfebjmmpiffpaa
open Ab

theorem of_len' (l : List Rc) : (Rs.of l).blk = .segs [⟨l.length, 6, [.int .u32 (Rs.of l).ks, .int .i64 (Rs.of l).ts, .int .i64 (Rs.of l).vs, .int .u8 (Rs.of l).ss, .bool (Rs.of l).es, .bool (Rs.of l).ls]⟩] := by rw [Rs.blk, ks_len]
theorem tkA' {α : Type} (F : Rc → α) (p : List Rc) : List.take p.length (List.drop 0 (p.map F)) = p.map F := by
  rw [List.drop_zero]; exact List.take_of_length_le (by simp)
theorem fold_len6 {o : Os} (h : o.kk.length ≤ 6) (r : Rc) : (fold (toO o) [r]).length ≤ 729 := by
  have h1 := fold_len r (toO o) [r]
  have h2 : 3 ^ (toO o).length ≤ 3 ^ 6 := Nat.pow_le_pow_right (by decide) (by rw [toO_len]; exact h)
  simp only [List.length_cons, List.length_nil] at h1
  show ((toO o).foldl (fun l x => step x l) [r]).length ≤ 729
  omega
def p0T (x : P0) (q : List Rc) (i : Nat) : Tmps := mkT 161 (x.at (fullB q) (rs1 (fullB q) (1 + cond x.af 1 0 + cond x.bf 1 0 + cond x.wf 1 0) (Rs.of q) none) (i : Nat))
def p0H (x : P0) (q : List Rc) : Log := hp 0 (x.blks (fullB q) (Rs.of q))
section
variable {ra : Nat → Nat → Nat × Nat} {base : Nat} {T : Tb}
theorem t111_S {r : Rc} {a : Go.Proofs.Ytbfebjmmpiffpaa.Os} {b : Go.Proofs.Ytbfebjmmpiffpaa.Os} {w : Rs} {wc : Option Nat} {sc : Option Nat} {l q : List Rc} {i : Nat} (h : fullB q = true) : p0T ⟨r, true, a, true, b, true, w, wc, true, Rs.of l, sc⟩ q i = mkT 161 [(5, .ptr (.own 0 0 0 0)), (7, .slice (.own 1 0 0 4) a.kk.length none), (8, .slice (.own 2 0 0 4) b.kk.length none), (9, .slice (.own 3 0 0 6) w.ks.length wc), (10, .slice (.own 4 0 0 6) q.length none), (11, .slice (.own 5 0 0 6) l.length sc), (12, .int .i64 (i : Nat))] := by
  simp only [p0T, P0.at, P0.fr, os1, rs1, h, ks_len]; rfl
theorem t111_N {r : Rc} {a : Go.Proofs.Ytbfebjmmpiffpaa.Os} {b : Go.Proofs.Ytbfebjmmpiffpaa.Os} {w : Rs} {wc : Option Nat} {sc : Option Nat} {l : List Rc} {i : Nat} : p0T ⟨r, true, a, true, b, true, w, wc, true, Rs.of l, sc⟩ [] i = mkT 161 [(5, .ptr (.own 0 0 0 0)), (7, .slice (.own 1 0 0 4) a.kk.length none), (8, .slice (.own 2 0 0 4) b.kk.length none), (9, .slice (.own 3 0 0 6) w.ks.length wc), (10, .nils), (11, .slice (.own 4 0 0 6) l.length sc), (12, .int .i64 (i : Nat))] := by
  simp only [p0T, P0.at, P0.fr, os1, rs1, ks_len]; rfl
theorem h111_S {r : Rc} {a : Go.Proofs.Ytbfebjmmpiffpaa.Os} {b : Go.Proofs.Ytbfebjmmpiffpaa.Os} {w : Rs} {wc : Option Nat} {sc : Option Nat} {l q : List Rc} (h : fullB q = true) : p0H ⟨r, true, a, true, b, true, w, wc, true, Rs.of l, sc⟩ q = hp 0 [r.cells, a.blk, b.blk, w.blk, .segs [⟨q.length, 6, [.int .u32 (q.map Rc.key), .int .i64 (q.map Rc.time), .int .i64 (q.map Rc.val), .int .u8 (q.map Rc.side), .bool (q.map Rc.err), .bool (q.map Rc.late)]⟩], .segs [⟨l.length, 6, [.int .u32 (Rs.of l).ks, .int .i64 (Rs.of l).ts, .int .i64 (Rs.of l).vs, .int .u8 (Rs.of l).ss, .bool (Rs.of l).es, .bool (Rs.of l).ls]⟩]] := by
  simp only [p0H, P0.blks, P0.fB, osB, rsB, h, ← of_len', ← of_blk]; rfl
theorem h111_N {r : Rc} {a : Go.Proofs.Ytbfebjmmpiffpaa.Os} {b : Go.Proofs.Ytbfebjmmpiffpaa.Os} {w : Rs} {wc : Option Nat} {sc : Option Nat} {l : List Rc} : p0H ⟨r, true, a, true, b, true, w, wc, true, Rs.of l, sc⟩ [] = hp 0 [r.cells, a.blk, b.blk, w.blk, .segs [⟨l.length, 6, [.int .u32 (Rs.of l).ks, .int .i64 (Rs.of l).ts, .int .i64 (Rs.of l).vs, .int .u8 (Rs.of l).ss, .bool (Rs.of l).es, .bool (Rs.of l).ls]⟩]] := by
  simp only [← of_len']; rfl
theorem s111_1 {r : Rc} {a : Go.Proofs.Ytbfebjmmpiffpaa.Os} {b : Go.Proofs.Ytbfebjmmpiffpaa.Os} {w : Rs} {wc : Option Nat} {sc : Option Nat} (hb : lensO b = true) (hb' : b.kk.length ≤ 6) {l q : List Rc} {i : Nat} {z : Rc} (hr : l[i]? = some z) (hl : l.length ≤ 1000000) (hq : q.length ≤ 3000000) (hf : fullB q = true) :
    Takes Try.prog (tabT T) ra base 0 (codeOf 5 (false :: g0)) (p0T ⟨r, true, a, true, b, true, w, wc, true, Rs.of l, sc⟩ q i) (p0H ⟨r, true, a, true, b, true, w, wc, true, Rs.of l, sc⟩ q) fun y => y = (.normal, p0T ⟨r, true, a, true, b, true, w, wc, true, Rs.of l, sc⟩ (q ++ fold (toO b) [z]) (i + 1), p0H ⟨r, true, a, true, b, true, w, wc, true, Rs.of l, sc⟩ (q ++ fold (toO b) [z])) := by
  have hE := tabT_plain T
  have hS := S5_ok (ra := ra) (base := base) T
  obtain ⟨e1, e2, e3, e4, e5, e6, e7⟩ := cols_of hr
  have er : (⟨z.key, z.time, z.val, z.side, z.err, z.late⟩ : Rc) = z := rfl
  have c1 : decide ((i : Int) < (l.length : Int)) = true := decide_eq_true (by omega)
  have c2 : decide (0 ≤ (i : Int)) = true := decide_eq_true (by omega)
  have c3 : decide (0 + Int.toNat (i : Int) < l.length) = true := decide_eq_true (by omega)
  have ht : wr .i64 ((i : Int) + 1) = ((i + 1 : Nat) : Int) := till (by omega)
  have hlen := fold_len6 hb' z
  have hok : okAp ⟨true, b, none, z⟩ = true := okAp_iff.2 ⟨hb, by show b.kk.length ≤ 12; omega, fun h => by cases h⟩
  have hres : Ap.res ⟨true, b, none, z⟩ = fold (toO b) [z] := rfl
  generalize hpp : fold (toO b) [z] = p at hres hlen ⊢
  have hno : Ap.none ⟨true, b, none, z⟩ = p.isEmpty := by rw [Ap.none, hres]
  obtain ⟨k1, k2, k3, k4, k5, k6⟩ := tk_of q
  have hT : p0T ⟨r, true, a, true, b, true, w, wc, true, Rs.of l, sc⟩ q i = mkT 161 (P0.at ⟨r, true, a, true, b, true, w, wc, true, Rs.of l, sc⟩ true (.slice (.own 4 0 0 6) (Rs.of q).ks.length none) (i : Nat)) := by rw [p0T, hf]; rfl
  have hH : p0H ⟨r, true, a, true, b, true, w, wc, true, Rs.of l, sc⟩ q = hp 0 (P0.blks ⟨r, true, a, true, b, true, w, wc, true, Rs.of l, sc⟩ true (Rs.of q)) := by rw [p0H, hf]
  rw [hT, hH]
  refine takes_of_tree hE (wE hE hS) (f := 5) (.inr (by kernel_rfl)) (hp_below _) (l0_111_1 T r a b w wc (Rs.of l) sc (Rs.of q) (i : Nat)) ?_
  have c7 : decide (0 + p.length ≤ p.length) = true := decide_eq_true (by omega)
  have c8 : decide (0 + q.length ≤ q.length) = true := decide_eq_true (by omega)
  have c9 : decide (q.length * 32 ≤ 35184372088832) = true := room (by omega)
  have c10 : decide ((q.length + p.length) * 32 ≤ 35184372088832) = true := room (by omega)
  simp only [e1, e2, e3, e4, e5, e6]
  simp only [er, ks_len, List.length_map, tkA', c1, c2, c3, c7, c10, k1, k2, k3, k4, k5, k6, c8, c9, hno, hok, hres, ht, Tree.holds, decide_true, Bool.and_self, Bool.and_true, Bool.true_and, true_and, and_true]
  refine ⟨fun _ => ⟨fun he => ⟨he, ?_⟩, fun he => ⟨by rw [he]; rfl, ?_⟩⟩, fun h => by cases h⟩
  · obtain rfl := List.isEmpty_iff.1 he
    simp only [List.append_nil]
    rw [t111_S hf, h111_S hf]; rfl
  · rw [t111_S (fullB_app hf), h111_S (fullB_app hf)]
    simp only [List.map_append, List.length_append]; rfl
theorem x111_1 {r : Rc} {a : Go.Proofs.Ytbfebjmmpiffpaa.Os} {b : Go.Proofs.Ytbfebjmmpiffpaa.Os} {w : Rs} {wc : Option Nat} {sc : Option Nat} {l q : List Rc} (hf : fullB q = true) :
    Takes Try.prog (tabT T) ra base 0 (codeOf 5 (false :: g0)) (p0T ⟨r, true, a, true, b, true, w, wc, true, Rs.of l, sc⟩ q l.length) (p0H ⟨r, true, a, true, b, true, w, wc, true, Rs.of l, sc⟩ q) fun y => y = (.exit 0, mkT 161 (P0.fr ⟨r, true, a, true, b, true, w, wc, true, Rs.of l, sc⟩ ++ [(10, rs1 (fullB q) (1 + cond true 1 0 + cond true 1 0 + cond true 1 0) (Rs.of q) none)]), hp 0 (P0.fB ⟨r, true, a, true, b, true, w, wc, true, Rs.of l, sc⟩ ++ rsB (fullB q) (Rs.of q))) := by
  have hE := tabT_plain T
  have hS := S5_ok (ra := ra) (base := base) T
  have c1 : decide ((l.length : Int) < ((Rs.of l).ks.length : Int)) = false := decide_eq_false (by rw [ks_len]; omega)
  have hT : p0T ⟨r, true, a, true, b, true, w, wc, true, Rs.of l, sc⟩ q l.length = mkT 161 (P0.at ⟨r, true, a, true, b, true, w, wc, true, Rs.of l, sc⟩ true (.slice (.own 4 0 0 6) (Rs.of q).ks.length none) (l.length : Nat)) := by rw [p0T, hf]; rfl
  have hH : p0H ⟨r, true, a, true, b, true, w, wc, true, Rs.of l, sc⟩ q = hp 0 (P0.blks ⟨r, true, a, true, b, true, w, wc, true, Rs.of l, sc⟩ true (Rs.of q)) := by rw [p0H, hf]
  rw [hT, hH, hf]
  refine takes_of_tree hE (wE hE hS) (f := 5) (.inr (by kernel_rfl)) (hp_below _) (l0_111_1 T r a b w wc (Rs.of l) sc (Rs.of q) (l.length : Nat)) ?_
  simp only [Tree.holds, c1, Bool.false_eq_true, false_implies, true_and, forall_const]
  rfl
theorem s111_0 {r : Rc} {a : Go.Proofs.Ytbfebjmmpiffpaa.Os} {b : Go.Proofs.Ytbfebjmmpiffpaa.Os} {w : Rs} {wc : Option Nat} {sc : Option Nat} (hb : lensO b = true) (hb' : b.kk.length ≤ 6) {l : List Rc} {i : Nat} {z : Rc} (hr : l[i]? = some z) (hl : l.length ≤ 1000000) :
    Takes Try.prog (tabT T) ra base 0 (codeOf 5 (false :: g0)) (p0T ⟨r, true, a, true, b, true, w, wc, true, Rs.of l, sc⟩ [] i) (p0H ⟨r, true, a, true, b, true, w, wc, true, Rs.of l, sc⟩ []) fun y => y = (.normal, p0T ⟨r, true, a, true, b, true, w, wc, true, Rs.of l, sc⟩ ([] ++ fold (toO b) [z]) (i + 1), p0H ⟨r, true, a, true, b, true, w, wc, true, Rs.of l, sc⟩ ([] ++ fold (toO b) [z])) := by
  have hE := tabT_plain T
  have hS := S5_ok (ra := ra) (base := base) T
  obtain ⟨e1, e2, e3, e4, e5, e6, e7⟩ := cols_of hr
  have er : (⟨z.key, z.time, z.val, z.side, z.err, z.late⟩ : Rc) = z := rfl
  have c1 : decide ((i : Int) < (l.length : Int)) = true := decide_eq_true (by omega)
  have c2 : decide (0 ≤ (i : Int)) = true := decide_eq_true (by omega)
  have c3 : decide (0 + Int.toNat (i : Int) < l.length) = true := decide_eq_true (by omega)
  have ht : wr .i64 ((i : Int) + 1) = ((i + 1 : Nat) : Int) := till (by omega)
  have hlen := fold_len6 hb' z
  have hok : okAp ⟨true, b, none, z⟩ = true := okAp_iff.2 ⟨hb, by show b.kk.length ≤ 12; omega, fun h => by cases h⟩
  have hres : Ap.res ⟨true, b, none, z⟩ = fold (toO b) [z] := rfl
  generalize hpp : fold (toO b) [z] = p at hres hlen ⊢
  have hno : Ap.none ⟨true, b, none, z⟩ = p.isEmpty := by rw [Ap.none, hres]
  refine takes_of_tree hE (wE hE hS) (f := 5) (.inr (by kernel_rfl)) (hp_below _) (l0_111_0 T r a b w wc (Rs.of l) sc (i : Nat)) ?_
  have c7 : decide (0 + p.length ≤ p.length) = true := decide_eq_true (by omega)
  have c10 : decide (p.length * 32 ≤ 35184372088832) = true := room (by omega)
  simp only [e1, e2, e3, e4, e5, e6]
  simp only [er, ks_len, List.length_map, tkA', c1, c2, c3, c7, c10, List.nil_append, hno, hok, hres, ht, Tree.holds, decide_true, Bool.and_self, Bool.and_true, Bool.true_and, true_and, and_true]
  refine ⟨fun _ => ⟨fun he => ⟨he, ?_⟩, fun he => ⟨by rw [he]; rfl, fun hb => ?_, fun hb => ?_⟩⟩, fun h => by cases h⟩
  · obtain rfl := List.isEmpty_iff.1 he
    rw [t111_N, h111_N]; rfl
  · have := Nat.eq_of_beq_eq_true hb
    obtain rfl := List.length_eq_zero_iff.1 this
    cases he
  · have hf' : fullB p = true := by rw [fullB, he]; rfl
    rw [t111_S hf', h111_S hf']; rfl
theorem x111_0 {r : Rc} {a : Go.Proofs.Ytbfebjmmpiffpaa.Os} {b : Go.Proofs.Ytbfebjmmpiffpaa.Os} {w : Rs} {wc : Option Nat} {sc : Option Nat} {l : List Rc} :
    Takes Try.prog (tabT T) ra base 0 (codeOf 5 (false :: g0)) (p0T ⟨r, true, a, true, b, true, w, wc, true, Rs.of l, sc⟩ [] l.length) (p0H ⟨r, true, a, true, b, true, w, wc, true, Rs.of l, sc⟩ []) fun y => y = (.exit 0, mkT 161 (P0.fr ⟨r, true, a, true, b, true, w, wc, true, Rs.of l, sc⟩ ++ [(10, rs1 (fullB []) (1 + cond true 1 0 + cond true 1 0 + cond true 1 0) (Rs.of []) none)]), hp 0 (P0.fB ⟨r, true, a, true, b, true, w, wc, true, Rs.of l, sc⟩ ++ rsB (fullB []) (Rs.of []))) := by
  have hE := tabT_plain T
  have hS := S5_ok (ra := ra) (base := base) T
  have c1 : decide ((l.length : Int) < ((Rs.of l).ks.length : Int)) = false := decide_eq_false (by rw [ks_len]; omega)
  refine takes_of_tree hE (wE hE hS) (f := 5) (.inr (by kernel_rfl)) (hp_below _) (l0_111_0 T r a b w wc (Rs.of l) sc (l.length : Nat)) ?_
  simp only [Tree.holds, c1, Bool.false_eq_true, false_implies, true_and, forall_const]
  rfl
theorem t110_S {r : Rc} {a : Go.Proofs.Ytbfebjmmpiffpaa.Os} {b : Go.Proofs.Ytbfebjmmpiffpaa.Os} {sc : Option Nat} {l q : List Rc} {i : Nat} (h : fullB q = true) : p0T ⟨r, true, a, true, b, false, Rs.none, none, true, Rs.of l, sc⟩ q i = mkT 161 [(5, .ptr (.own 0 0 0 0)), (7, .slice (.own 1 0 0 4) a.kk.length none), (8, .slice (.own 2 0 0 4) b.kk.length none), (9, .nils), (10, .slice (.own 3 0 0 6) q.length none), (11, .slice (.own 4 0 0 6) l.length sc), (12, .int .i64 (i : Nat))] := by
  simp only [p0T, P0.at, P0.fr, os1, rs1, h, ks_len]; rfl
theorem t110_N {r : Rc} {a : Go.Proofs.Ytbfebjmmpiffpaa.Os} {b : Go.Proofs.Ytbfebjmmpiffpaa.Os} {sc : Option Nat} {l : List Rc} {i : Nat} : p0T ⟨r, true, a, true, b, false, Rs.none, none, true, Rs.of l, sc⟩ [] i = mkT 161 [(5, .ptr (.own 0 0 0 0)), (7, .slice (.own 1 0 0 4) a.kk.length none), (8, .slice (.own 2 0 0 4) b.kk.length none), (9, .nils), (10, .nils), (11, .slice (.own 3 0 0 6) l.length sc), (12, .int .i64 (i : Nat))] := by
  simp only [p0T, P0.at, P0.fr, os1, rs1, ks_len]; rfl
theorem h110_S {r : Rc} {a : Go.Proofs.Ytbfebjmmpiffpaa.Os} {b : Go.Proofs.Ytbfebjmmpiffpaa.Os} {sc : Option Nat} {l q : List Rc} (h : fullB q = true) : p0H ⟨r, true, a, true, b, false, Rs.none, none, true, Rs.of l, sc⟩ q = hp 0 [r.cells, a.blk, b.blk, .segs [⟨q.length, 6, [.int .u32 (q.map Rc.key), .int .i64 (q.map Rc.time), .int .i64 (q.map Rc.val), .int .u8 (q.map Rc.side), .bool (q.map Rc.err), .bool (q.map Rc.late)]⟩], .segs [⟨l.length, 6, [.int .u32 (Rs.of l).ks, .int .i64 (Rs.of l).ts, .int .i64 (Rs.of l).vs, .int .u8 (Rs.of l).ss, .bool (Rs.of l).es, .bool (Rs.of l).ls]⟩]] := by
  simp only [p0H, P0.blks, P0.fB, osB, rsB, h, ← of_len', ← of_blk]; rfl
theorem h110_N {r : Rc} {a : Go.Proofs.Ytbfebjmmpiffpaa.Os} {b : Go.Proofs.Ytbfebjmmpiffpaa.Os} {sc : Option Nat} {l : List Rc} : p0H ⟨r, true, a, true, b, false, Rs.none, none, true, Rs.of l, sc⟩ [] = hp 0 [r.cells, a.blk, b.blk, .segs [⟨l.length, 6, [.int .u32 (Rs.of l).ks, .int .i64 (Rs.of l).ts, .int .i64 (Rs.of l).vs, .int .u8 (Rs.of l).ss, .bool (Rs.of l).es, .bool (Rs.of l).ls]⟩]] := by
  simp only [← of_len']; rfl
theorem s110_1 {r : Rc} {a : Go.Proofs.Ytbfebjmmpiffpaa.Os} {b : Go.Proofs.Ytbfebjmmpiffpaa.Os} {sc : Option Nat} (hb : lensO b = true) (hb' : b.kk.length ≤ 6) {l q : List Rc} {i : Nat} {z : Rc} (hr : l[i]? = some z) (hl : l.length ≤ 1000000) (hq : q.length ≤ 3000000) (hf : fullB q = true) :
    Takes Try.prog (tabT T) ra base 0 (codeOf 5 (false :: g0)) (p0T ⟨r, true, a, true, b, false, Rs.none, none, true, Rs.of l, sc⟩ q i) (p0H ⟨r, true, a, true, b, false, Rs.none, none, true, Rs.of l, sc⟩ q) fun y => y = (.normal, p0T ⟨r, true, a, true, b, false, Rs.none, none, true, Rs.of l, sc⟩ (q ++ fold (toO b) [z]) (i + 1), p0H ⟨r, true, a, true, b, false, Rs.none, none, true, Rs.of l, sc⟩ (q ++ fold (toO b) [z])) := by
  have hE := tabT_plain T
  have hS := S5_ok (ra := ra) (base := base) T
  obtain ⟨e1, e2, e3, e4, e5, e6, e7⟩ := cols_of hr
  have er : (⟨z.key, z.time, z.val, z.side, z.err, z.late⟩ : Rc) = z := rfl
  have c1 : decide ((i : Int) < (l.length : Int)) = true := decide_eq_true (by omega)
  have c2 : decide (0 ≤ (i : Int)) = true := decide_eq_true (by omega)
  have c3 : decide (0 + Int.toNat (i : Int) < l.length) = true := decide_eq_true (by omega)
  have ht : wr .i64 ((i : Int) + 1) = ((i + 1 : Nat) : Int) := till (by omega)
  have hlen := fold_len6 hb' z
  have hok : okAp ⟨true, b, none, z⟩ = true := okAp_iff.2 ⟨hb, by show b.kk.length ≤ 12; omega, fun h => by cases h⟩
  have hres : Ap.res ⟨true, b, none, z⟩ = fold (toO b) [z] := rfl
  generalize hpp : fold (toO b) [z] = p at hres hlen ⊢
  have hno : Ap.none ⟨true, b, none, z⟩ = p.isEmpty := by rw [Ap.none, hres]
  obtain ⟨k1, k2, k3, k4, k5, k6⟩ := tk_of q
  have hT : p0T ⟨r, true, a, true, b, false, Rs.none, none, true, Rs.of l, sc⟩ q i = mkT 161 (P0.at ⟨r, true, a, true, b, false, Rs.none, none, true, Rs.of l, sc⟩ true (.slice (.own 3 0 0 6) (Rs.of q).ks.length none) (i : Nat)) := by rw [p0T, hf]; rfl
  have hH : p0H ⟨r, true, a, true, b, false, Rs.none, none, true, Rs.of l, sc⟩ q = hp 0 (P0.blks ⟨r, true, a, true, b, false, Rs.none, none, true, Rs.of l, sc⟩ true (Rs.of q)) := by rw [p0H, hf]
  rw [hT, hH]
  refine takes_of_tree hE (wE hE hS) (f := 5) (.inr (by kernel_rfl)) (hp_below _) (l0_110_1 T r a b (Rs.of l) sc (Rs.of q) (i : Nat)) ?_
  have c7 : decide (0 + p.length ≤ p.length) = true := decide_eq_true (by omega)
  have c8 : decide (0 + q.length ≤ q.length) = true := decide_eq_true (by omega)
  have c9 : decide (q.length * 32 ≤ 35184372088832) = true := room (by omega)
  have c10 : decide ((q.length + p.length) * 32 ≤ 35184372088832) = true := room (by omega)
  simp only [e1, e2, e3, e4, e5, e6]
  simp only [er, ks_len, List.length_map, tkA', c1, c2, c3, c7, c10, k1, k2, k3, k4, k5, k6, c8, c9, hno, hok, hres, ht, Tree.holds, decide_true, Bool.and_self, Bool.and_true, Bool.true_and, true_and, and_true]
  refine ⟨fun _ => ⟨fun he => ⟨he, ?_⟩, fun he => ⟨by rw [he]; rfl, ?_⟩⟩, fun h => by cases h⟩
  · obtain rfl := List.isEmpty_iff.1 he
    simp only [List.append_nil]
    rw [t110_S hf, h110_S hf]; rfl
  · rw [t110_S (fullB_app hf), h110_S (fullB_app hf)]
    simp only [List.map_append, List.length_append]; rfl
theorem x110_1 {r : Rc} {a : Go.Proofs.Ytbfebjmmpiffpaa.Os} {b : Go.Proofs.Ytbfebjmmpiffpaa.Os} {sc : Option Nat} {l q : List Rc} (hf : fullB q = true) :
    Takes Try.prog (tabT T) ra base 0 (codeOf 5 (false :: g0)) (p0T ⟨r, true, a, true, b, false, Rs.none, none, true, Rs.of l, sc⟩ q l.length) (p0H ⟨r, true, a, true, b, false, Rs.none, none, true, Rs.of l, sc⟩ q) fun y => y = (.exit 0, mkT 161 (P0.fr ⟨r, true, a, true, b, false, Rs.none, none, true, Rs.of l, sc⟩ ++ [(10, rs1 (fullB q) (1 + cond true 1 0 + cond true 1 0 + cond false 1 0) (Rs.of q) none)]), hp 0 (P0.fB ⟨r, true, a, true, b, false, Rs.none, none, true, Rs.of l, sc⟩ ++ rsB (fullB q) (Rs.of q))) := by
  have hE := tabT_plain T
  have hS := S5_ok (ra := ra) (base := base) T
  have c1 : decide ((l.length : Int) < ((Rs.of l).ks.length : Int)) = false := decide_eq_false (by rw [ks_len]; omega)
  have hT : p0T ⟨r, true, a, true, b, false, Rs.none, none, true, Rs.of l, sc⟩ q l.length = mkT 161 (P0.at ⟨r, true, a, true, b, false, Rs.none, none, true, Rs.of l, sc⟩ true (.slice (.own 3 0 0 6) (Rs.of q).ks.length none) (l.length : Nat)) := by rw [p0T, hf]; rfl
  have hH : p0H ⟨r, true, a, true, b, false, Rs.none, none, true, Rs.of l, sc⟩ q = hp 0 (P0.blks ⟨r, true, a, true, b, false, Rs.none, none, true, Rs.of l, sc⟩ true (Rs.of q)) := by rw [p0H, hf]
  rw [hT, hH, hf]
  refine takes_of_tree hE (wE hE hS) (f := 5) (.inr (by kernel_rfl)) (hp_below _) (l0_110_1 T r a b (Rs.of l) sc (Rs.of q) (l.length : Nat)) ?_
  simp only [Tree.holds, c1, Bool.false_eq_true, false_implies, true_and, forall_const]
  rfl
theorem s110_0 {r : Rc} {a : Go.Proofs.Ytbfebjmmpiffpaa.Os} {b : Go.Proofs.Ytbfebjmmpiffpaa.Os} {sc : Option Nat} (hb : lensO b = true) (hb' : b.kk.length ≤ 6) {l : List Rc} {i : Nat} {z : Rc} (hr : l[i]? = some z) (hl : l.length ≤ 1000000) :
    Takes Try.prog (tabT T) ra base 0 (codeOf 5 (false :: g0)) (p0T ⟨r, true, a, true, b, false, Rs.none, none, true, Rs.of l, sc⟩ [] i) (p0H ⟨r, true, a, true, b, false, Rs.none, none, true, Rs.of l, sc⟩ []) fun y => y = (.normal, p0T ⟨r, true, a, true, b, false, Rs.none, none, true, Rs.of l, sc⟩ ([] ++ fold (toO b) [z]) (i + 1), p0H ⟨r, true, a, true, b, false, Rs.none, none, true, Rs.of l, sc⟩ ([] ++ fold (toO b) [z])) := by
  have hE := tabT_plain T
  have hS := S5_ok (ra := ra) (base := base) T
  obtain ⟨e1, e2, e3, e4, e5, e6, e7⟩ := cols_of hr
  have er : (⟨z.key, z.time, z.val, z.side, z.err, z.late⟩ : Rc) = z := rfl
  have c1 : decide ((i : Int) < (l.length : Int)) = true := decide_eq_true (by omega)
  have c2 : decide (0 ≤ (i : Int)) = true := decide_eq_true (by omega)
  have c3 : decide (0 + Int.toNat (i : Int) < l.length) = true := decide_eq_true (by omega)
  have ht : wr .i64 ((i : Int) + 1) = ((i + 1 : Nat) : Int) := till (by omega)
  have hlen := fold_len6 hb' z
  have hok : okAp ⟨true, b, none, z⟩ = true := okAp_iff.2 ⟨hb, by show b.kk.length ≤ 12; omega, fun h => by cases h⟩
  have hres : Ap.res ⟨true, b, none, z⟩ = fold (toO b) [z] := rfl
  generalize hpp : fold (toO b) [z] = p at hres hlen ⊢
  have hno : Ap.none ⟨true, b, none, z⟩ = p.isEmpty := by rw [Ap.none, hres]
  refine takes_of_tree hE (wE hE hS) (f := 5) (.inr (by kernel_rfl)) (hp_below _) (l0_110_0 T r a b (Rs.of l) sc (i : Nat)) ?_
  have c7 : decide (0 + p.length ≤ p.length) = true := decide_eq_true (by omega)
  have c10 : decide (p.length * 32 ≤ 35184372088832) = true := room (by omega)
  simp only [e1, e2, e3, e4, e5, e6]
  simp only [er, ks_len, List.length_map, tkA', c1, c2, c3, c7, c10, List.nil_append, hno, hok, hres, ht, Tree.holds, decide_true, Bool.and_self, Bool.and_true, Bool.true_and, true_and, and_true]
  refine ⟨fun _ => ⟨fun he => ⟨he, ?_⟩, fun he => ⟨by rw [he]; rfl, fun hb => ?_, fun hb => ?_⟩⟩, fun h => by cases h⟩
  · obtain rfl := List.isEmpty_iff.1 he
    rw [t110_N, h110_N]; rfl
  · have := Nat.eq_of_beq_eq_true hb
    obtain rfl := List.length_eq_zero_iff.1 this
    cases he
  · have hf' : fullB p = true := by rw [fullB, he]; rfl
    rw [t110_S hf', h110_S hf']; rfl
theorem x110_0 {r : Rc} {a : Go.Proofs.Ytbfebjmmpiffpaa.Os} {b : Go.Proofs.Ytbfebjmmpiffpaa.Os} {sc : Option Nat} {l : List Rc} :
    Takes Try.prog (tabT T) ra base 0 (codeOf 5 (false :: g0)) (p0T ⟨r, true, a, true, b, false, Rs.none, none, true, Rs.of l, sc⟩ [] l.length) (p0H ⟨r, true, a, true, b, false, Rs.none, none, true, Rs.of l, sc⟩ []) fun y => y = (.exit 0, mkT 161 (P0.fr ⟨r, true, a, true, b, false, Rs.none, none, true, Rs.of l, sc⟩ ++ [(10, rs1 (fullB []) (1 + cond true 1 0 + cond true 1 0 + cond false 1 0) (Rs.of []) none)]), hp 0 (P0.fB ⟨r, true, a, true, b, false, Rs.none, none, true, Rs.of l, sc⟩ ++ rsB (fullB []) (Rs.of []))) := by
  have hE := tabT_plain T
  have hS := S5_ok (ra := ra) (base := base) T
  have c1 : decide ((l.length : Int) < ((Rs.of l).ks.length : Int)) = false := decide_eq_false (by rw [ks_len]; omega)
  refine takes_of_tree hE (wE hE hS) (f := 5) (.inr (by kernel_rfl)) (hp_below _) (l0_110_0 T r a b (Rs.of l) sc (l.length : Nat)) ?_
  simp only [Tree.holds, c1, Bool.false_eq_true, false_implies, true_and, forall_const]
  rfl
theorem t101_S {r : Rc} {a : Go.Proofs.Ytbfebjmmpiffpaa.Os} {w : Rs} {wc : Option Nat} {sc : Option Nat} {l q : List Rc} {i : Nat} (h : fullB q = true) : p0T ⟨r, true, a, false, Os.none, true, w, wc, true, Rs.of l, sc⟩ q i = mkT 161 [(5, .ptr (.own 0 0 0 0)), (7, .slice (.own 1 0 0 4) a.kk.length none), (8, .nils), (9, .slice (.own 2 0 0 6) w.ks.length wc), (10, .slice (.own 3 0 0 6) q.length none), (11, .slice (.own 4 0 0 6) l.length sc), (12, .int .i64 (i : Nat))] := by
  simp only [p0T, P0.at, P0.fr, os1, rs1, h, ks_len]; rfl
theorem t101_N {r : Rc} {a : Go.Proofs.Ytbfebjmmpiffpaa.Os} {w : Rs} {wc : Option Nat} {sc : Option Nat} {l : List Rc} {i : Nat} : p0T ⟨r, true, a, false, Os.none, true, w, wc, true, Rs.of l, sc⟩ [] i = mkT 161 [(5, .ptr (.own 0 0 0 0)), (7, .slice (.own 1 0 0 4) a.kk.length none), (8, .nils), (9, .slice (.own 2 0 0 6) w.ks.length wc), (10, .nils), (11, .slice (.own 3 0 0 6) l.length sc), (12, .int .i64 (i : Nat))] := by
  simp only [p0T, P0.at, P0.fr, os1, rs1, ks_len]; rfl
theorem h101_S {r : Rc} {a : Go.Proofs.Ytbfebjmmpiffpaa.Os} {w : Rs} {wc : Option Nat} {sc : Option Nat} {l q : List Rc} (h : fullB q = true) : p0H ⟨r, true, a, false, Os.none, true, w, wc, true, Rs.of l, sc⟩ q = hp 0 [r.cells, a.blk, w.blk, .segs [⟨q.length, 6, [.int .u32 (q.map Rc.key), .int .i64 (q.map Rc.time), .int .i64 (q.map Rc.val), .int .u8 (q.map Rc.side), .bool (q.map Rc.err), .bool (q.map Rc.late)]⟩], .segs [⟨l.length, 6, [.int .u32 (Rs.of l).ks, .int .i64 (Rs.of l).ts, .int .i64 (Rs.of l).vs, .int .u8 (Rs.of l).ss, .bool (Rs.of l).es, .bool (Rs.of l).ls]⟩]] := by
  simp only [p0H, P0.blks, P0.fB, osB, rsB, h, ← of_len', ← of_blk]; rfl
theorem h101_N {r : Rc} {a : Go.Proofs.Ytbfebjmmpiffpaa.Os} {w : Rs} {wc : Option Nat} {sc : Option Nat} {l : List Rc} : p0H ⟨r, true, a, false, Os.none, true, w, wc, true, Rs.of l, sc⟩ [] = hp 0 [r.cells, a.blk, w.blk, .segs [⟨l.length, 6, [.int .u32 (Rs.of l).ks, .int .i64 (Rs.of l).ts, .int .i64 (Rs.of l).vs, .int .u8 (Rs.of l).ss, .bool (Rs.of l).es, .bool (Rs.of l).ls]⟩]] := by
  simp only [← of_len']; rfl
theorem s101_1 {r : Rc} {a : Go.Proofs.Ytbfebjmmpiffpaa.Os} {w : Rs} {wc : Option Nat} {sc : Option Nat} {l q : List Rc} {i : Nat} {z : Rc} (hr : l[i]? = some z) (hl : l.length ≤ 1000000) (hq : q.length ≤ 3000000) (hf : fullB q = true) :
    Takes Try.prog (tabT T) ra base 0 (codeOf 5 (false :: g0)) (p0T ⟨r, true, a, false, Os.none, true, w, wc, true, Rs.of l, sc⟩ q i) (p0H ⟨r, true, a, false, Os.none, true, w, wc, true, Rs.of l, sc⟩ q) fun y => y = (.normal, p0T ⟨r, true, a, false, Os.none, true, w, wc, true, Rs.of l, sc⟩ (q ++ fold (toO Os.none) [z]) (i + 1), p0H ⟨r, true, a, false, Os.none, true, w, wc, true, Rs.of l, sc⟩ (q ++ fold (toO Os.none) [z])) := by
  have hE := tabT_plain T
  have hS := S5_ok (ra := ra) (base := base) T
  obtain ⟨e1, e2, e3, e4, e5, e6, e7⟩ := cols_of hr
  have er : (⟨z.key, z.time, z.val, z.side, z.err, z.late⟩ : Rc) = z := rfl
  have c1 : decide ((i : Int) < (l.length : Int)) = true := decide_eq_true (by omega)
  have c2 : decide (0 ≤ (i : Int)) = true := decide_eq_true (by omega)
  have c3 : decide (0 + Int.toNat (i : Int) < l.length) = true := decide_eq_true (by omega)
  have ht : wr .i64 ((i : Int) + 1) = ((i + 1 : Nat) : Int) := till (by omega)
  have hres : Ap.res ⟨false, Os.none, none, z⟩ = [z] := rfl
  have hlen : [z].length ≤ 729 := by simp
  have hpp : fold (toO Os.none) [z] = [z] := rfl
  rw [hpp]
  obtain ⟨k1, k2, k3, k4, k5, k6⟩ := tk_of q
  have hT : p0T ⟨r, true, a, false, Os.none, true, w, wc, true, Rs.of l, sc⟩ q i = mkT 161 (P0.at ⟨r, true, a, false, Os.none, true, w, wc, true, Rs.of l, sc⟩ true (.slice (.own 3 0 0 6) (Rs.of q).ks.length none) (i : Nat)) := by rw [p0T, hf]; rfl
  have hH : p0H ⟨r, true, a, false, Os.none, true, w, wc, true, Rs.of l, sc⟩ q = hp 0 (P0.blks ⟨r, true, a, false, Os.none, true, w, wc, true, Rs.of l, sc⟩ true (Rs.of q)) := by rw [p0H, hf]
  rw [hT, hH]
  refine takes_of_tree hE (wE hE hS) (f := 5) (.inr (by kernel_rfl)) (hp_below _) (l0_101_1 T r a w wc (Rs.of l) sc (Rs.of q) (i : Nat)) ?_
  have c7 : decide (0 + [z].length ≤ [z].length) = true := decide_eq_true (by omega)
  have c8 : decide (0 + q.length ≤ q.length) = true := decide_eq_true (by omega)
  have c9 : decide (q.length * 32 ≤ 35184372088832) = true := room (by omega)
  have c10 : decide ((q.length + [z].length) * 32 ≤ 35184372088832) = true := room (by omega)
  simp only [e1, e2, e3, e4, e5, e6]
  simp only [er, ks_len, List.length_map, tkA', c1, c2, c3, c7, c10, k1, k2, k3, k4, k5, k6, c8, c9, hres, ht, Tree.holds, decide_true, Bool.and_self, Bool.and_true, Bool.true_and, true_and, and_true]
  refine ⟨fun _ => ?_, fun h => by cases h⟩
  rw [t101_S (fullB_app hf), h101_S (fullB_app hf)]
  simp only [List.map_append, List.length_append]; rfl
theorem x101_1 {r : Rc} {a : Go.Proofs.Ytbfebjmmpiffpaa.Os} {w : Rs} {wc : Option Nat} {sc : Option Nat} {l q : List Rc} (hf : fullB q = true) :
    Takes Try.prog (tabT T) ra base 0 (codeOf 5 (false :: g0)) (p0T ⟨r, true, a, false, Os.none, true, w, wc, true, Rs.of l, sc⟩ q l.length) (p0H ⟨r, true, a, false, Os.none, true, w, wc, true, Rs.of l, sc⟩ q) fun y => y = (.exit 0, mkT 161 (P0.fr ⟨r, true, a, false, Os.none, true, w, wc, true, Rs.of l, sc⟩ ++ [(10, rs1 (fullB q) (1 + cond true 1 0 + cond false 1 0 + cond true 1 0) (Rs.of q) none)]), hp 0 (P0.fB ⟨r, true, a, false, Os.none, true, w, wc, true, Rs.of l, sc⟩ ++ rsB (fullB q) (Rs.of q))) := by
  have hE := tabT_plain T
  have hS := S5_ok (ra := ra) (base := base) T
  have c1 : decide ((l.length : Int) < ((Rs.of l).ks.length : Int)) = false := decide_eq_false (by rw [ks_len]; omega)
  have hT : p0T ⟨r, true, a, false, Os.none, true, w, wc, true, Rs.of l, sc⟩ q l.length = mkT 161 (P0.at ⟨r, true, a, false, Os.none, true, w, wc, true, Rs.of l, sc⟩ true (.slice (.own 3 0 0 6) (Rs.of q).ks.length none) (l.length : Nat)) := by rw [p0T, hf]; rfl
  have hH : p0H ⟨r, true, a, false, Os.none, true, w, wc, true, Rs.of l, sc⟩ q = hp 0 (P0.blks ⟨r, true, a, false, Os.none, true, w, wc, true, Rs.of l, sc⟩ true (Rs.of q)) := by rw [p0H, hf]
  rw [hT, hH, hf]
  refine takes_of_tree hE (wE hE hS) (f := 5) (.inr (by kernel_rfl)) (hp_below _) (l0_101_1 T r a w wc (Rs.of l) sc (Rs.of q) (l.length : Nat)) ?_
  simp only [Tree.holds, c1, Bool.false_eq_true, false_implies, true_and, forall_const]
  rfl
theorem s101_0 {r : Rc} {a : Go.Proofs.Ytbfebjmmpiffpaa.Os} {w : Rs} {wc : Option Nat} {sc : Option Nat} {l : List Rc} {i : Nat} {z : Rc} (hr : l[i]? = some z) (hl : l.length ≤ 1000000) :
    Takes Try.prog (tabT T) ra base 0 (codeOf 5 (false :: g0)) (p0T ⟨r, true, a, false, Os.none, true, w, wc, true, Rs.of l, sc⟩ [] i) (p0H ⟨r, true, a, false, Os.none, true, w, wc, true, Rs.of l, sc⟩ []) fun y => y = (.normal, p0T ⟨r, true, a, false, Os.none, true, w, wc, true, Rs.of l, sc⟩ ([] ++ fold (toO Os.none) [z]) (i + 1), p0H ⟨r, true, a, false, Os.none, true, w, wc, true, Rs.of l, sc⟩ ([] ++ fold (toO Os.none) [z])) := by
  have hE := tabT_plain T
  have hS := S5_ok (ra := ra) (base := base) T
  obtain ⟨e1, e2, e3, e4, e5, e6, e7⟩ := cols_of hr
  have er : (⟨z.key, z.time, z.val, z.side, z.err, z.late⟩ : Rc) = z := rfl
  have c1 : decide ((i : Int) < (l.length : Int)) = true := decide_eq_true (by omega)
  have c2 : decide (0 ≤ (i : Int)) = true := decide_eq_true (by omega)
  have c3 : decide (0 + Int.toNat (i : Int) < l.length) = true := decide_eq_true (by omega)
  have ht : wr .i64 ((i : Int) + 1) = ((i + 1 : Nat) : Int) := till (by omega)
  have hres : Ap.res ⟨false, Os.none, none, z⟩ = [z] := rfl
  have hlen : [z].length ≤ 729 := by simp
  have hpp : fold (toO Os.none) [z] = [z] := rfl
  rw [hpp]
  refine takes_of_tree hE (wE hE hS) (f := 5) (.inr (by kernel_rfl)) (hp_below _) (l0_101_0 T r a w wc (Rs.of l) sc (i : Nat)) ?_
  have c7 : decide (0 + [z].length ≤ [z].length) = true := decide_eq_true (by omega)
  have c10 : decide ([z].length * 32 ≤ 35184372088832) = true := room (by omega)
  simp only [e1, e2, e3, e4, e5, e6]
  simp only [er, ks_len, List.length_map, tkA', c1, c2, c3, c7, c10, List.nil_append, hres, ht, Tree.holds, decide_true, Bool.and_self, Bool.and_true, Bool.true_and, true_and, and_true]
  refine ⟨fun _ => ?_, fun h => by cases h⟩
  rw [t101_S (q := [z]) rfl, h101_S (q := [z]) rfl]; rfl
theorem x101_0 {r : Rc} {a : Go.Proofs.Ytbfebjmmpiffpaa.Os} {w : Rs} {wc : Option Nat} {sc : Option Nat} {l : List Rc} :
    Takes Try.prog (tabT T) ra base 0 (codeOf 5 (false :: g0)) (p0T ⟨r, true, a, false, Os.none, true, w, wc, true, Rs.of l, sc⟩ [] l.length) (p0H ⟨r, true, a, false, Os.none, true, w, wc, true, Rs.of l, sc⟩ []) fun y => y = (.exit 0, mkT 161 (P0.fr ⟨r, true, a, false, Os.none, true, w, wc, true, Rs.of l, sc⟩ ++ [(10, rs1 (fullB []) (1 + cond true 1 0 + cond false 1 0 + cond true 1 0) (Rs.of []) none)]), hp 0 (P0.fB ⟨r, true, a, false, Os.none, true, w, wc, true, Rs.of l, sc⟩ ++ rsB (fullB []) (Rs.of []))) := by
  have hE := tabT_plain T
  have hS := S5_ok (ra := ra) (base := base) T
  have c1 : decide ((l.length : Int) < ((Rs.of l).ks.length : Int)) = false := decide_eq_false (by rw [ks_len]; omega)
  refine takes_of_tree hE (wE hE hS) (f := 5) (.inr (by kernel_rfl)) (hp_below _) (l0_101_0 T r a w wc (Rs.of l) sc (l.length : Nat)) ?_
  simp only [Tree.holds, c1, Bool.false_eq_true, false_implies, true_and, forall_const]
  rfl
theorem t100_S {r : Rc} {a : Go.Proofs.Ytbfebjmmpiffpaa.Os} {sc : Option Nat} {l q : List Rc} {i : Nat} (h : fullB q = true) : p0T ⟨r, true, a, false, Os.none, false, Rs.none, none, true, Rs.of l, sc⟩ q i = mkT 161 [(5, .ptr (.own 0 0 0 0)), (7, .slice (.own 1 0 0 4) a.kk.length none), (8, .nils), (9, .nils), (10, .slice (.own 2 0 0 6) q.length none), (11, .slice (.own 3 0 0 6) l.length sc), (12, .int .i64 (i : Nat))] := by
  simp only [p0T, P0.at, P0.fr, os1, rs1, h, ks_len]; rfl
theorem t100_N {r : Rc} {a : Go.Proofs.Ytbfebjmmpiffpaa.Os} {sc : Option Nat} {l : List Rc} {i : Nat} : p0T ⟨r, true, a, false, Os.none, false, Rs.none, none, true, Rs.of l, sc⟩ [] i = mkT 161 [(5, .ptr (.own 0 0 0 0)), (7, .slice (.own 1 0 0 4) a.kk.length none), (8, .nils), (9, .nils), (10, .nils), (11, .slice (.own 2 0 0 6) l.length sc), (12, .int .i64 (i : Nat))] := by
  simp only [p0T, P0.at, P0.fr, os1, rs1, ks_len]; rfl
theorem h100_S {r : Rc} {a : Go.Proofs.Ytbfebjmmpiffpaa.Os} {sc : Option Nat} {l q : List Rc} (h : fullB q = true) : p0H ⟨r, true, a, false, Os.none, false, Rs.none, none, true, Rs.of l, sc⟩ q = hp 0 [r.cells, a.blk, .segs [⟨q.length, 6, [.int .u32 (q.map Rc.key), .int .i64 (q.map Rc.time), .int .i64 (q.map Rc.val), .int .u8 (q.map Rc.side), .bool (q.map Rc.err), .bool (q.map Rc.late)]⟩], .segs [⟨l.length, 6, [.int .u32 (Rs.of l).ks, .int .i64 (Rs.of l).ts, .int .i64 (Rs.of l).vs, .int .u8 (Rs.of l).ss, .bool (Rs.of l).es, .bool (Rs.of l).ls]⟩]] := by
  simp only [p0H, P0.blks, P0.fB, osB, rsB, h, ← of_len', ← of_blk]; rfl
theorem h100_N {r : Rc} {a : Go.Proofs.Ytbfebjmmpiffpaa.Os} {sc : Option Nat} {l : List Rc} : p0H ⟨r, true, a, false, Os.none, false, Rs.none, none, true, Rs.of l, sc⟩ [] = hp 0 [r.cells, a.blk, .segs [⟨l.length, 6, [.int .u32 (Rs.of l).ks, .int .i64 (Rs.of l).ts, .int .i64 (Rs.of l).vs, .int .u8 (Rs.of l).ss, .bool (Rs.of l).es, .bool (Rs.of l).ls]⟩]] := by
  simp only [← of_len']; rfl
theorem s100_1 {r : Rc} {a : Go.Proofs.Ytbfebjmmpiffpaa.Os} {sc : Option Nat} {l q : List Rc} {i : Nat} {z : Rc} (hr : l[i]? = some z) (hl : l.length ≤ 1000000) (hq : q.length ≤ 3000000) (hf : fullB q = true) :
    Takes Try.prog (tabT T) ra base 0 (codeOf 5 (false :: g0)) (p0T ⟨r, true, a, false, Os.none, false, Rs.none, none, true, Rs.of l, sc⟩ q i) (p0H ⟨r, true, a, false, Os.none, false, Rs.none, none, true, Rs.of l, sc⟩ q) fun y => y = (.normal, p0T ⟨r, true, a, false, Os.none, false, Rs.none, none, true, Rs.of l, sc⟩ (q ++ fold (toO Os.none) [z]) (i + 1), p0H ⟨r, true, a, false, Os.none, false, Rs.none, none, true, Rs.of l, sc⟩ (q ++ fold (toO Os.none) [z])) := by
  have hE := tabT_plain T
  have hS := S5_ok (ra := ra) (base := base) T
  obtain ⟨e1, e2, e3, e4, e5, e6, e7⟩ := cols_of hr
  have er : (⟨z.key, z.time, z.val, z.side, z.err, z.late⟩ : Rc) = z := rfl
  have c1 : decide ((i : Int) < (l.length : Int)) = true := decide_eq_true (by omega)
  have c2 : decide (0 ≤ (i : Int)) = true := decide_eq_true (by omega)
  have c3 : decide (0 + Int.toNat (i : Int) < l.length) = true := decide_eq_true (by omega)
  have ht : wr .i64 ((i : Int) + 1) = ((i + 1 : Nat) : Int) := till (by omega)
  have hres : Ap.res ⟨false, Os.none, none, z⟩ = [z] := rfl
  have hlen : [z].length ≤ 729 := by simp
  have hpp : fold (toO Os.none) [z] = [z] := rfl
  rw [hpp]
  obtain ⟨k1, k2, k3, k4, k5, k6⟩ := tk_of q
  have hT : p0T ⟨r, true, a, false, Os.none, false, Rs.none, none, true, Rs.of l, sc⟩ q i = mkT 161 (P0.at ⟨r, true, a, false, Os.none, false, Rs.none, none, true, Rs.of l, sc⟩ true (.slice (.own 2 0 0 6) (Rs.of q).ks.length none) (i : Nat)) := by rw [p0T, hf]; rfl
  have hH : p0H ⟨r, true, a, false, Os.none, false, Rs.none, none, true, Rs.of l, sc⟩ q = hp 0 (P0.blks ⟨r, true, a, false, Os.none, false, Rs.none, none, true, Rs.of l, sc⟩ true (Rs.of q)) := by rw [p0H, hf]
  rw [hT, hH]
  refine takes_of_tree hE (wE hE hS) (f := 5) (.inr (by kernel_rfl)) (hp_below _) (l0_100_1 T r a (Rs.of l) sc (Rs.of q) (i : Nat)) ?_
  have c7 : decide (0 + [z].length ≤ [z].length) = true := decide_eq_true (by omega)
  have c8 : decide (0 + q.length ≤ q.length) = true := decide_eq_true (by omega)
  have c9 : decide (q.length * 32 ≤ 35184372088832) = true := room (by omega)
  have c10 : decide ((q.length + [z].length) * 32 ≤ 35184372088832) = true := room (by omega)
  simp only [e1, e2, e3, e4, e5, e6]
  simp only [er, ks_len, List.length_map, tkA', c1, c2, c3, c7, c10, k1, k2, k3, k4, k5, k6, c8, c9, hres, ht, Tree.holds, decide_true, Bool.and_self, Bool.and_true, Bool.true_and, true_and, and_true]
  refine ⟨fun _ => ?_, fun h => by cases h⟩
  rw [t100_S (fullB_app hf), h100_S (fullB_app hf)]
  simp only [List.map_append, List.length_append]; rfl
theorem x100_1 {r : Rc} {a : Go.Proofs.Ytbfebjmmpiffpaa.Os} {sc : Option Nat} {l q : List Rc} (hf : fullB q = true) :
    Takes Try.prog (tabT T) ra base 0 (codeOf 5 (false :: g0)) (p0T ⟨r, true, a, false, Os.none, false, Rs.none, none, true, Rs.of l, sc⟩ q l.length) (p0H ⟨r, true, a, false, Os.none, false, Rs.none, none, true, Rs.of l, sc⟩ q) fun y => y = (.exit 0, mkT 161 (P0.fr ⟨r, true, a, false, Os.none, false, Rs.none, none, true, Rs.of l, sc⟩ ++ [(10, rs1 (fullB q) (1 + cond true 1 0 + cond false 1 0 + cond false 1 0) (Rs.of q) none)]), hp 0 (P0.fB ⟨r, true, a, false, Os.none, false, Rs.none, none, true, Rs.of l, sc⟩ ++ rsB (fullB q) (Rs.of q))) := by
  have hE := tabT_plain T
  have hS := S5_ok (ra := ra) (base := base) T
  have c1 : decide ((l.length : Int) < ((Rs.of l).ks.length : Int)) = false := decide_eq_false (by rw [ks_len]; omega)
  have hT : p0T ⟨r, true, a, false, Os.none, false, Rs.none, none, true, Rs.of l, sc⟩ q l.length = mkT 161 (P0.at ⟨r, true, a, false, Os.none, false, Rs.none, none, true, Rs.of l, sc⟩ true (.slice (.own 2 0 0 6) (Rs.of q).ks.length none) (l.length : Nat)) := by rw [p0T, hf]; rfl
  have hH : p0H ⟨r, true, a, false, Os.none, false, Rs.none, none, true, Rs.of l, sc⟩ q = hp 0 (P0.blks ⟨r, true, a, false, Os.none, false, Rs.none, none, true, Rs.of l, sc⟩ true (Rs.of q)) := by rw [p0H, hf]
  rw [hT, hH, hf]
  refine takes_of_tree hE (wE hE hS) (f := 5) (.inr (by kernel_rfl)) (hp_below _) (l0_100_1 T r a (Rs.of l) sc (Rs.of q) (l.length : Nat)) ?_
  simp only [Tree.holds, c1, Bool.false_eq_true, false_implies, true_and, forall_const]
  rfl
theorem s100_0 {r : Rc} {a : Go.Proofs.Ytbfebjmmpiffpaa.Os} {sc : Option Nat} {l : List Rc} {i : Nat} {z : Rc} (hr : l[i]? = some z) (hl : l.length ≤ 1000000) :
    Takes Try.prog (tabT T) ra base 0 (codeOf 5 (false :: g0)) (p0T ⟨r, true, a, false, Os.none, false, Rs.none, none, true, Rs.of l, sc⟩ [] i) (p0H ⟨r, true, a, false, Os.none, false, Rs.none, none, true, Rs.of l, sc⟩ []) fun y => y = (.normal, p0T ⟨r, true, a, false, Os.none, false, Rs.none, none, true, Rs.of l, sc⟩ ([] ++ fold (toO Os.none) [z]) (i + 1), p0H ⟨r, true, a, false, Os.none, false, Rs.none, none, true, Rs.of l, sc⟩ ([] ++ fold (toO Os.none) [z])) := by
  have hE := tabT_plain T
  have hS := S5_ok (ra := ra) (base := base) T
  obtain ⟨e1, e2, e3, e4, e5, e6, e7⟩ := cols_of hr
  have er : (⟨z.key, z.time, z.val, z.side, z.err, z.late⟩ : Rc) = z := rfl
  have c1 : decide ((i : Int) < (l.length : Int)) = true := decide_eq_true (by omega)
  have c2 : decide (0 ≤ (i : Int)) = true := decide_eq_true (by omega)
  have c3 : decide (0 + Int.toNat (i : Int) < l.length) = true := decide_eq_true (by omega)
  have ht : wr .i64 ((i : Int) + 1) = ((i + 1 : Nat) : Int) := till (by omega)
  have hres : Ap.res ⟨false, Os.none, none, z⟩ = [z] := rfl
  have hlen : [z].length ≤ 729 := by simp
  have hpp : fold (toO Os.none) [z] = [z] := rfl
  rw [hpp]
  refine takes_of_tree hE (wE hE hS) (f := 5) (.inr (by kernel_rfl)) (hp_below _) (l0_100_0 T r a (Rs.of l) sc (i : Nat)) ?_
  have c7 : decide (0 + [z].length ≤ [z].length) = true := decide_eq_true (by omega)
  have c10 : decide ([z].length * 32 ≤ 35184372088832) = true := room (by omega)
  simp only [e1, e2, e3, e4, e5, e6]
  simp only [er, ks_len, List.length_map, tkA', c1, c2, c3, c7, c10, List.nil_append, hres, ht, Tree.holds, decide_true, Bool.and_self, Bool.and_true, Bool.true_and, true_and, and_true]
  refine ⟨fun _ => ?_, fun h => by cases h⟩
  rw [t100_S (q := [z]) rfl, h100_S (q := [z]) rfl]; rfl
theorem x100_0 {r : Rc} {a : Go.Proofs.Ytbfebjmmpiffpaa.Os} {sc : Option Nat} {l : List Rc} :
    Takes Try.prog (tabT T) ra base 0 (codeOf 5 (false :: g0)) (p0T ⟨r, true, a, false, Os.none, false, Rs.none, none, true, Rs.of l, sc⟩ [] l.length) (p0H ⟨r, true, a, false, Os.none, false, Rs.none, none, true, Rs.of l, sc⟩ []) fun y => y = (.exit 0, mkT 161 (P0.fr ⟨r, true, a, false, Os.none, false, Rs.none, none, true, Rs.of l, sc⟩ ++ [(10, rs1 (fullB []) (1 + cond true 1 0 + cond false 1 0 + cond false 1 0) (Rs.of []) none)]), hp 0 (P0.fB ⟨r, true, a, false, Os.none, false, Rs.none, none, true, Rs.of l, sc⟩ ++ rsB (fullB []) (Rs.of []))) := by
  have hE := tabT_plain T
  have hS := S5_ok (ra := ra) (base := base) T
  have c1 : decide ((l.length : Int) < ((Rs.of l).ks.length : Int)) = false := decide_eq_false (by rw [ks_len]; omega)
  refine takes_of_tree hE (wE hE hS) (f := 5) (.inr (by kernel_rfl)) (hp_below _) (l0_100_0 T r a (Rs.of l) sc (l.length : Nat)) ?_
  simp only [Tree.holds, c1, Bool.false_eq_true, false_implies, true_and, forall_const]
  rfl
theorem t011_S {r : Rc} {b : Go.Proofs.Ytbfebjmmpiffpaa.Os} {w : Rs} {wc : Option Nat} {sc : Option Nat} {l q : List Rc} {i : Nat} (h : fullB q = true) : p0T ⟨r, false, Os.none, true, b, true, w, wc, true, Rs.of l, sc⟩ q i = mkT 161 [(5, .ptr (.own 0 0 0 0)), (7, .nils), (8, .slice (.own 1 0 0 4) b.kk.length none), (9, .slice (.own 2 0 0 6) w.ks.length wc), (10, .slice (.own 3 0 0 6) q.length none), (11, .slice (.own 4 0 0 6) l.length sc), (12, .int .i64 (i : Nat))] := by
  simp only [p0T, P0.at, P0.fr, os1, rs1, h, ks_len]; rfl
theorem t011_N {r : Rc} {b : Go.Proofs.Ytbfebjmmpiffpaa.Os} {w : Rs} {wc : Option Nat} {sc : Option Nat} {l : List Rc} {i : Nat} : p0T ⟨r, false, Os.none, true, b, true, w, wc, true, Rs.of l, sc⟩ [] i = mkT 161 [(5, .ptr (.own 0 0 0 0)), (7, .nils), (8, .slice (.own 1 0 0 4) b.kk.length none), (9, .slice (.own 2 0 0 6) w.ks.length wc), (10, .nils), (11, .slice (.own 3 0 0 6) l.length sc), (12, .int .i64 (i : Nat))] := by
  simp only [p0T, P0.at, P0.fr, os1, rs1, ks_len]; rfl
theorem h011_S {r : Rc} {b : Go.Proofs.Ytbfebjmmpiffpaa.Os} {w : Rs} {wc : Option Nat} {sc : Option Nat} {l q : List Rc} (h : fullB q = true) : p0H ⟨r, false, Os.none, true, b, true, w, wc, true, Rs.of l, sc⟩ q = hp 0 [r.cells, b.blk, w.blk, .segs [⟨q.length, 6, [.int .u32 (q.map Rc.key), .int .i64 (q.map Rc.time), .int .i64 (q.map Rc.val), .int .u8 (q.map Rc.side), .bool (q.map Rc.err), .bool (q.map Rc.late)]⟩], .segs [⟨l.length, 6, [.int .u32 (Rs.of l).ks, .int .i64 (Rs.of l).ts, .int .i64 (Rs.of l).vs, .int .u8 (Rs.of l).ss, .bool (Rs.of l).es, .bool (Rs.of l).ls]⟩]] := by
  simp only [p0H, P0.blks, P0.fB, osB, rsB, h, ← of_len', ← of_blk]; rfl
theorem h011_N {r : Rc} {b : Go.Proofs.Ytbfebjmmpiffpaa.Os} {w : Rs} {wc : Option Nat} {sc : Option Nat} {l : List Rc} : p0H ⟨r, false, Os.none, true, b, true, w, wc, true, Rs.of l, sc⟩ [] = hp 0 [r.cells, b.blk, w.blk, .segs [⟨l.length, 6, [.int .u32 (Rs.of l).ks, .int .i64 (Rs.of l).ts, .int .i64 (Rs.of l).vs, .int .u8 (Rs.of l).ss, .bool (Rs.of l).es, .bool (Rs.of l).ls]⟩]] := by
  simp only [← of_len']; rfl
theorem s011_1 {r : Rc} {b : Go.Proofs.Ytbfebjmmpiffpaa.Os} {w : Rs} {wc : Option Nat} {sc : Option Nat} (hb : lensO b = true) (hb' : b.kk.length ≤ 6) {l q : List Rc} {i : Nat} {z : Rc} (hr : l[i]? = some z) (hl : l.length ≤ 1000000) (hq : q.length ≤ 3000000) (hf : fullB q = true) :
    Takes Try.prog (tabT T) ra base 0 (codeOf 5 (false :: g0)) (p0T ⟨r, false, Os.none, true, b, true, w, wc, true, Rs.of l, sc⟩ q i) (p0H ⟨r, false, Os.none, true, b, true, w, wc, true, Rs.of l, sc⟩ q) fun y => y = (.normal, p0T ⟨r, false, Os.none, true, b, true, w, wc, true, Rs.of l, sc⟩ (q ++ fold (toO b) [z]) (i + 1), p0H ⟨r, false, Os.none, true, b, true, w, wc, true, Rs.of l, sc⟩ (q ++ fold (toO b) [z])) := by
  have hE := tabT_plain T
  have hS := S5_ok (ra := ra) (base := base) T
  obtain ⟨e1, e2, e3, e4, e5, e6, e7⟩ := cols_of hr
  have er : (⟨z.key, z.time, z.val, z.side, z.err, z.late⟩ : Rc) = z := rfl
  have c1 : decide ((i : Int) < (l.length : Int)) = true := decide_eq_true (by omega)
  have c2 : decide (0 ≤ (i : Int)) = true := decide_eq_true (by omega)
  have c3 : decide (0 + Int.toNat (i : Int) < l.length) = true := decide_eq_true (by omega)
  have ht : wr .i64 ((i : Int) + 1) = ((i + 1 : Nat) : Int) := till (by omega)
  have hlen := fold_len6 hb' z
  have hok : okAp ⟨true, b, none, z⟩ = true := okAp_iff.2 ⟨hb, by show b.kk.length ≤ 12; omega, fun h => by cases h⟩
  have hres : Ap.res ⟨true, b, none, z⟩ = fold (toO b) [z] := rfl
  generalize hpp : fold (toO b) [z] = p at hres hlen ⊢
  have hno : Ap.none ⟨true, b, none, z⟩ = p.isEmpty := by rw [Ap.none, hres]
  obtain ⟨k1, k2, k3, k4, k5, k6⟩ := tk_of q
  have hT : p0T ⟨r, false, Os.none, true, b, true, w, wc, true, Rs.of l, sc⟩ q i = mkT 161 (P0.at ⟨r, false, Os.none, true, b, true, w, wc, true, Rs.of l, sc⟩ true (.slice (.own 3 0 0 6) (Rs.of q).ks.length none) (i : Nat)) := by rw [p0T, hf]; rfl
  have hH : p0H ⟨r, false, Os.none, true, b, true, w, wc, true, Rs.of l, sc⟩ q = hp 0 (P0.blks ⟨r, false, Os.none, true, b, true, w, wc, true, Rs.of l, sc⟩ true (Rs.of q)) := by rw [p0H, hf]
  rw [hT, hH]
  refine takes_of_tree hE (wE hE hS) (f := 5) (.inr (by kernel_rfl)) (hp_below _) (l0_011_1 T r b w wc (Rs.of l) sc (Rs.of q) (i : Nat)) ?_
  have c7 : decide (0 + p.length ≤ p.length) = true := decide_eq_true (by omega)
  have c8 : decide (0 + q.length ≤ q.length) = true := decide_eq_true (by omega)
  have c9 : decide (q.length * 32 ≤ 35184372088832) = true := room (by omega)
  have c10 : decide ((q.length + p.length) * 32 ≤ 35184372088832) = true := room (by omega)
  simp only [e1, e2, e3, e4, e5, e6]
  simp only [er, ks_len, List.length_map, tkA', c1, c2, c3, c7, c10, k1, k2, k3, k4, k5, k6, c8, c9, hno, hok, hres, ht, Tree.holds, decide_true, Bool.and_self, Bool.and_true, Bool.true_and, true_and, and_true]
  refine ⟨fun _ => ⟨fun he => ⟨he, ?_⟩, fun he => ⟨by rw [he]; rfl, ?_⟩⟩, fun h => by cases h⟩
  · obtain rfl := List.isEmpty_iff.1 he
    simp only [List.append_nil]
    rw [t011_S hf, h011_S hf]; rfl
  · rw [t011_S (fullB_app hf), h011_S (fullB_app hf)]
    simp only [List.map_append, List.length_append]; rfl
theorem x011_1 {r : Rc} {b : Go.Proofs.Ytbfebjmmpiffpaa.Os} {w : Rs} {wc : Option Nat} {sc : Option Nat} {l q : List Rc} (hf : fullB q = true) :
    Takes Try.prog (tabT T) ra base 0 (codeOf 5 (false :: g0)) (p0T ⟨r, false, Os.none, true, b, true, w, wc, true, Rs.of l, sc⟩ q l.length) (p0H ⟨r, false, Os.none, true, b, true, w, wc, true, Rs.of l, sc⟩ q) fun y => y = (.exit 0, mkT 161 (P0.fr ⟨r, false, Os.none, true, b, true, w, wc, true, Rs.of l, sc⟩ ++ [(10, rs1 (fullB q) (1 + cond false 1 0 + cond true 1 0 + cond true 1 0) (Rs.of q) none)]), hp 0 (P0.fB ⟨r, false, Os.none, true, b, true, w, wc, true, Rs.of l, sc⟩ ++ rsB (fullB q) (Rs.of q))) := by
  have hE := tabT_plain T
  have hS := S5_ok (ra := ra) (base := base) T
  have c1 : decide ((l.length : Int) < ((Rs.of l).ks.length : Int)) = false := decide_eq_false (by rw [ks_len]; omega)
  have hT : p0T ⟨r, false, Os.none, true, b, true, w, wc, true, Rs.of l, sc⟩ q l.length = mkT 161 (P0.at ⟨r, false, Os.none, true, b, true, w, wc, true, Rs.of l, sc⟩ true (.slice (.own 3 0 0 6) (Rs.of q).ks.length none) (l.length : Nat)) := by rw [p0T, hf]; rfl
  have hH : p0H ⟨r, false, Os.none, true, b, true, w, wc, true, Rs.of l, sc⟩ q = hp 0 (P0.blks ⟨r, false, Os.none, true, b, true, w, wc, true, Rs.of l, sc⟩ true (Rs.of q)) := by rw [p0H, hf]
  rw [hT, hH, hf]
  refine takes_of_tree hE (wE hE hS) (f := 5) (.inr (by kernel_rfl)) (hp_below _) (l0_011_1 T r b w wc (Rs.of l) sc (Rs.of q) (l.length : Nat)) ?_
  simp only [Tree.holds, c1, Bool.false_eq_true, false_implies, true_and, forall_const]
  rfl
theorem s011_0 {r : Rc} {b : Go.Proofs.Ytbfebjmmpiffpaa.Os} {w : Rs} {wc : Option Nat} {sc : Option Nat} (hb : lensO b = true) (hb' : b.kk.length ≤ 6) {l : List Rc} {i : Nat} {z : Rc} (hr : l[i]? = some z) (hl : l.length ≤ 1000000) :
    Takes Try.prog (tabT T) ra base 0 (codeOf 5 (false :: g0)) (p0T ⟨r, false, Os.none, true, b, true, w, wc, true, Rs.of l, sc⟩ [] i) (p0H ⟨r, false, Os.none, true, b, true, w, wc, true, Rs.of l, sc⟩ []) fun y => y = (.normal, p0T ⟨r, false, Os.none, true, b, true, w, wc, true, Rs.of l, sc⟩ ([] ++ fold (toO b) [z]) (i + 1), p0H ⟨r, false, Os.none, true, b, true, w, wc, true, Rs.of l, sc⟩ ([] ++ fold (toO b) [z])) := by
  have hE := tabT_plain T
  have hS := S5_ok (ra := ra) (base := base) T
  obtain ⟨e1, e2, e3, e4, e5, e6, e7⟩ := cols_of hr
  have er : (⟨z.key, z.time, z.val, z.side, z.err, z.late⟩ : Rc) = z := rfl
  have c1 : decide ((i : Int) < (l.length : Int)) = true := decide_eq_true (by omega)
  have c2 : decide (0 ≤ (i : Int)) = true := decide_eq_true (by omega)
  have c3 : decide (0 + Int.toNat (i : Int) < l.length) = true := decide_eq_true (by omega)
  have ht : wr .i64 ((i : Int) + 1) = ((i + 1 : Nat) : Int) := till (by omega)
  have hlen := fold_len6 hb' z
  have hok : okAp ⟨true, b, none, z⟩ = true := okAp_iff.2 ⟨hb, by show b.kk.length ≤ 12; omega, fun h => by cases h⟩
  have hres : Ap.res ⟨true, b, none, z⟩ = fold (toO b) [z] := rfl
  generalize hpp : fold (toO b) [z] = p at hres hlen ⊢
  have hno : Ap.none ⟨true, b, none, z⟩ = p.isEmpty := by rw [Ap.none, hres]
  refine takes_of_tree hE (wE hE hS) (f := 5) (.inr (by kernel_rfl)) (hp_below _) (l0_011_0 T r b w wc (Rs.of l) sc (i : Nat)) ?_
  have c7 : decide (0 + p.length ≤ p.length) = true := decide_eq_true (by omega)
  have c10 : decide (p.length * 32 ≤ 35184372088832) = true := room (by omega)
  simp only [e1, e2, e3, e4, e5, e6]
  simp only [er, ks_len, List.length_map, tkA', c1, c2, c3, c7, c10, List.nil_append, hno, hok, hres, ht, Tree.holds, decide_true, Bool.and_self, Bool.and_true, Bool.true_and, true_and, and_true]
  refine ⟨fun _ => ⟨fun he => ⟨he, ?_⟩, fun he => ⟨by rw [he]; rfl, fun hb => ?_, fun hb => ?_⟩⟩, fun h => by cases h⟩
  · obtain rfl := List.isEmpty_iff.1 he
    rw [t011_N, h011_N]; rfl
  · have := Nat.eq_of_beq_eq_true hb
    obtain rfl := List.length_eq_zero_iff.1 this
    cases he
  · have hf' : fullB p = true := by rw [fullB, he]; rfl
    rw [t011_S hf', h011_S hf']; rfl
theorem x011_0 {r : Rc} {b : Go.Proofs.Ytbfebjmmpiffpaa.Os} {w : Rs} {wc : Option Nat} {sc : Option Nat} {l : List Rc} :
    Takes Try.prog (tabT T) ra base 0 (codeOf 5 (false :: g0)) (p0T ⟨r, false, Os.none, true, b, true, w, wc, true, Rs.of l, sc⟩ [] l.length) (p0H ⟨r, false, Os.none, true, b, true, w, wc, true, Rs.of l, sc⟩ []) fun y => y = (.exit 0, mkT 161 (P0.fr ⟨r, false, Os.none, true, b, true, w, wc, true, Rs.of l, sc⟩ ++ [(10, rs1 (fullB []) (1 + cond false 1 0 + cond true 1 0 + cond true 1 0) (Rs.of []) none)]), hp 0 (P0.fB ⟨r, false, Os.none, true, b, true, w, wc, true, Rs.of l, sc⟩ ++ rsB (fullB []) (Rs.of []))) := by
  have hE := tabT_plain T
  have hS := S5_ok (ra := ra) (base := base) T
  have c1 : decide ((l.length : Int) < ((Rs.of l).ks.length : Int)) = false := decide_eq_false (by rw [ks_len]; omega)
  refine takes_of_tree hE (wE hE hS) (f := 5) (.inr (by kernel_rfl)) (hp_below _) (l0_011_0 T r b w wc (Rs.of l) sc (l.length : Nat)) ?_
  simp only [Tree.holds, c1, Bool.false_eq_true, false_implies, true_and, forall_const]
  rfl
theorem t010_S {r : Rc} {b : Go.Proofs.Ytbfebjmmpiffpaa.Os} {sc : Option Nat} {l q : List Rc} {i : Nat} (h : fullB q = true) : p0T ⟨r, false, Os.none, true, b, false, Rs.none, none, true, Rs.of l, sc⟩ q i = mkT 161 [(5, .ptr (.own 0 0 0 0)), (7, .nils), (8, .slice (.own 1 0 0 4) b.kk.length none), (9, .nils), (10, .slice (.own 2 0 0 6) q.length none), (11, .slice (.own 3 0 0 6) l.length sc), (12, .int .i64 (i : Nat))] := by
  simp only [p0T, P0.at, P0.fr, os1, rs1, h, ks_len]; rfl
theorem t010_N {r : Rc} {b : Go.Proofs.Ytbfebjmmpiffpaa.Os} {sc : Option Nat} {l : List Rc} {i : Nat} : p0T ⟨r, false, Os.none, true, b, false, Rs.none, none, true, Rs.of l, sc⟩ [] i = mkT 161 [(5, .ptr (.own 0 0 0 0)), (7, .nils), (8, .slice (.own 1 0 0 4) b.kk.length none), (9, .nils), (10, .nils), (11, .slice (.own 2 0 0 6) l.length sc), (12, .int .i64 (i : Nat))] := by
  simp only [p0T, P0.at, P0.fr, os1, rs1, ks_len]; rfl
theorem h010_S {r : Rc} {b : Go.Proofs.Ytbfebjmmpiffpaa.Os} {sc : Option Nat} {l q : List Rc} (h : fullB q = true) : p0H ⟨r, false, Os.none, true, b, false, Rs.none, none, true, Rs.of l, sc⟩ q = hp 0 [r.cells, b.blk, .segs [⟨q.length, 6, [.int .u32 (q.map Rc.key), .int .i64 (q.map Rc.time), .int .i64 (q.map Rc.val), .int .u8 (q.map Rc.side), .bool (q.map Rc.err), .bool (q.map Rc.late)]⟩], .segs [⟨l.length, 6, [.int .u32 (Rs.of l).ks, .int .i64 (Rs.of l).ts, .int .i64 (Rs.of l).vs, .int .u8 (Rs.of l).ss, .bool (Rs.of l).es, .bool (Rs.of l).ls]⟩]] := by
  simp only [p0H, P0.blks, P0.fB, osB, rsB, h, ← of_len', ← of_blk]; rfl
theorem h010_N {r : Rc} {b : Go.Proofs.Ytbfebjmmpiffpaa.Os} {sc : Option Nat} {l : List Rc} : p0H ⟨r, false, Os.none, true, b, false, Rs.none, none, true, Rs.of l, sc⟩ [] = hp 0 [r.cells, b.blk, .segs [⟨l.length, 6, [.int .u32 (Rs.of l).ks, .int .i64 (Rs.of l).ts, .int .i64 (Rs.of l).vs, .int .u8 (Rs.of l).ss, .bool (Rs.of l).es, .bool (Rs.of l).ls]⟩]] := by
  simp only [← of_len']; rfl
theorem s010_1 {r : Rc} {b : Go.Proofs.Ytbfebjmmpiffpaa.Os} {sc : Option Nat} (hb : lensO b = true) (hb' : b.kk.length ≤ 6) {l q : List Rc} {i : Nat} {z : Rc} (hr : l[i]? = some z) (hl : l.length ≤ 1000000) (hq : q.length ≤ 3000000) (hf : fullB q = true) :
    Takes Try.prog (tabT T) ra base 0 (codeOf 5 (false :: g0)) (p0T ⟨r, false, Os.none, true, b, false, Rs.none, none, true, Rs.of l, sc⟩ q i) (p0H ⟨r, false, Os.none, true, b, false, Rs.none, none, true, Rs.of l, sc⟩ q) fun y => y = (.normal, p0T ⟨r, false, Os.none, true, b, false, Rs.none, none, true, Rs.of l, sc⟩ (q ++ fold (toO b) [z]) (i + 1), p0H ⟨r, false, Os.none, true, b, false, Rs.none, none, true, Rs.of l, sc⟩ (q ++ fold (toO b) [z])) := by
  have hE := tabT_plain T
  have hS := S5_ok (ra := ra) (base := base) T
  obtain ⟨e1, e2, e3, e4, e5, e6, e7⟩ := cols_of hr
  have er : (⟨z.key, z.time, z.val, z.side, z.err, z.late⟩ : Rc) = z := rfl
  have c1 : decide ((i : Int) < (l.length : Int)) = true := decide_eq_true (by omega)
  have c2 : decide (0 ≤ (i : Int)) = true := decide_eq_true (by omega)
  have c3 : decide (0 + Int.toNat (i : Int) < l.length) = true := decide_eq_true (by omega)
  have ht : wr .i64 ((i : Int) + 1) = ((i + 1 : Nat) : Int) := till (by omega)
  have hlen := fold_len6 hb' z
  have hok : okAp ⟨true, b, none, z⟩ = true := okAp_iff.2 ⟨hb, by show b.kk.length ≤ 12; omega, fun h => by cases h⟩
  have hres : Ap.res ⟨true, b, none, z⟩ = fold (toO b) [z] := rfl
  generalize hpp : fold (toO b) [z] = p at hres hlen ⊢
  have hno : Ap.none ⟨true, b, none, z⟩ = p.isEmpty := by rw [Ap.none, hres]
  obtain ⟨k1, k2, k3, k4, k5, k6⟩ := tk_of q
  have hT : p0T ⟨r, false, Os.none, true, b, false, Rs.none, none, true, Rs.of l, sc⟩ q i = mkT 161 (P0.at ⟨r, false, Os.none, true, b, false, Rs.none, none, true, Rs.of l, sc⟩ true (.slice (.own 2 0 0 6) (Rs.of q).ks.length none) (i : Nat)) := by rw [p0T, hf]; rfl
  have hH : p0H ⟨r, false, Os.none, true, b, false, Rs.none, none, true, Rs.of l, sc⟩ q = hp 0 (P0.blks ⟨r, false, Os.none, true, b, false, Rs.none, none, true, Rs.of l, sc⟩ true (Rs.of q)) := by rw [p0H, hf]
  rw [hT, hH]
  refine takes_of_tree hE (wE hE hS) (f := 5) (.inr (by kernel_rfl)) (hp_below _) (l0_010_1 T r b (Rs.of l) sc (Rs.of q) (i : Nat)) ?_
  have c7 : decide (0 + p.length ≤ p.length) = true := decide_eq_true (by omega)
  have c8 : decide (0 + q.length ≤ q.length) = true := decide_eq_true (by omega)
  have c9 : decide (q.length * 32 ≤ 35184372088832) = true := room (by omega)
  have c10 : decide ((q.length + p.length) * 32 ≤ 35184372088832) = true := room (by omega)
  simp only [e1, e2, e3, e4, e5, e6]
  simp only [er, ks_len, List.length_map, tkA', c1, c2, c3, c7, c10, k1, k2, k3, k4, k5, k6, c8, c9, hno, hok, hres, ht, Tree.holds, decide_true, Bool.and_self, Bool.and_true, Bool.true_and, true_and, and_true]
  refine ⟨fun _ => ⟨fun he => ⟨he, ?_⟩, fun he => ⟨by rw [he]; rfl, ?_⟩⟩, fun h => by cases h⟩
  · obtain rfl := List.isEmpty_iff.1 he
    simp only [List.append_nil]
    rw [t010_S hf, h010_S hf]; rfl
  · rw [t010_S (fullB_app hf), h010_S (fullB_app hf)]
    simp only [List.map_append, List.length_append]; rfl
theorem x010_1 {r : Rc} {b : Go.Proofs.Ytbfebjmmpiffpaa.Os} {sc : Option Nat} {l q : List Rc} (hf : fullB q = true) :
    Takes Try.prog (tabT T) ra base 0 (codeOf 5 (false :: g0)) (p0T ⟨r, false, Os.none, true, b, false, Rs.none, none, true, Rs.of l, sc⟩ q l.length) (p0H ⟨r, false, Os.none, true, b, false, Rs.none, none, true, Rs.of l, sc⟩ q) fun y => y = (.exit 0, mkT 161 (P0.fr ⟨r, false, Os.none, true, b, false, Rs.none, none, true, Rs.of l, sc⟩ ++ [(10, rs1 (fullB q) (1 + cond false 1 0 + cond true 1 0 + cond false 1 0) (Rs.of q) none)]), hp 0 (P0.fB ⟨r, false, Os.none, true, b, false, Rs.none, none, true, Rs.of l, sc⟩ ++ rsB (fullB q) (Rs.of q))) := by
  have hE := tabT_plain T
  have hS := S5_ok (ra := ra) (base := base) T
  have c1 : decide ((l.length : Int) < ((Rs.of l).ks.length : Int)) = false := decide_eq_false (by rw [ks_len]; omega)
  have hT : p0T ⟨r, false, Os.none, true, b, false, Rs.none, none, true, Rs.of l, sc⟩ q l.length = mkT 161 (P0.at ⟨r, false, Os.none, true, b, false, Rs.none, none, true, Rs.of l, sc⟩ true (.slice (.own 2 0 0 6) (Rs.of q).ks.length none) (l.length : Nat)) := by rw [p0T, hf]; rfl
  have hH : p0H ⟨r, false, Os.none, true, b, false, Rs.none, none, true, Rs.of l, sc⟩ q = hp 0 (P0.blks ⟨r, false, Os.none, true, b, false, Rs.none, none, true, Rs.of l, sc⟩ true (Rs.of q)) := by rw [p0H, hf]
  rw [hT, hH, hf]
  refine takes_of_tree hE (wE hE hS) (f := 5) (.inr (by kernel_rfl)) (hp_below _) (l0_010_1 T r b (Rs.of l) sc (Rs.of q) (l.length : Nat)) ?_
  simp only [Tree.holds, c1, Bool.false_eq_true, false_implies, true_and, forall_const]
  rfl
theorem s010_0 {r : Rc} {b : Go.Proofs.Ytbfebjmmpiffpaa.Os} {sc : Option Nat} (hb : lensO b = true) (hb' : b.kk.length ≤ 6) {l : List Rc} {i : Nat} {z : Rc} (hr : l[i]? = some z) (hl : l.length ≤ 1000000) :
    Takes Try.prog (tabT T) ra base 0 (codeOf 5 (false :: g0)) (p0T ⟨r, false, Os.none, true, b, false, Rs.none, none, true, Rs.of l, sc⟩ [] i) (p0H ⟨r, false, Os.none, true, b, false, Rs.none, none, true, Rs.of l, sc⟩ []) fun y => y = (.normal, p0T ⟨r, false, Os.none, true, b, false, Rs.none, none, true, Rs.of l, sc⟩ ([] ++ fold (toO b) [z]) (i + 1), p0H ⟨r, false, Os.none, true, b, false, Rs.none, none, true, Rs.of l, sc⟩ ([] ++ fold (toO b) [z])) := by
  have hE := tabT_plain T
  have hS := S5_ok (ra := ra) (base := base) T
  obtain ⟨e1, e2, e3, e4, e5, e6, e7⟩ := cols_of hr
  have er : (⟨z.key, z.time, z.val, z.side, z.err, z.late⟩ : Rc) = z := rfl
  have c1 : decide ((i : Int) < (l.length : Int)) = true := decide_eq_true (by omega)
  have c2 : decide (0 ≤ (i : Int)) = true := decide_eq_true (by omega)
  have c3 : decide (0 + Int.toNat (i : Int) < l.length) = true := decide_eq_true (by omega)
  have ht : wr .i64 ((i : Int) + 1) = ((i + 1 : Nat) : Int) := till (by omega)
  have hlen := fold_len6 hb' z
  have hok : okAp ⟨true, b, none, z⟩ = true := okAp_iff.2 ⟨hb, by show b.kk.length ≤ 12; omega, fun h => by cases h⟩
  have hres : Ap.res ⟨true, b, none, z⟩ = fold (toO b) [z] := rfl
  generalize hpp : fold (toO b) [z] = p at hres hlen ⊢
  have hno : Ap.none ⟨true, b, none, z⟩ = p.isEmpty := by rw [Ap.none, hres]
  refine takes_of_tree hE (wE hE hS) (f := 5) (.inr (by kernel_rfl)) (hp_below _) (l0_010_0 T r b (Rs.of l) sc (i : Nat)) ?_
  have c7 : decide (0 + p.length ≤ p.length) = true := decide_eq_true (by omega)
  have c10 : decide (p.length * 32 ≤ 35184372088832) = true := room (by omega)
  simp only [e1, e2, e3, e4, e5, e6]
  simp only [er, ks_len, List.length_map, tkA', c1, c2, c3, c7, c10, List.nil_append, hno, hok, hres, ht, Tree.holds, decide_true, Bool.and_self, Bool.and_true, Bool.true_and, true_and, and_true]
  refine ⟨fun _ => ⟨fun he => ⟨he, ?_⟩, fun he => ⟨by rw [he]; rfl, fun hb => ?_, fun hb => ?_⟩⟩, fun h => by cases h⟩
  · obtain rfl := List.isEmpty_iff.1 he
    rw [t010_N, h010_N]; rfl
  · have := Nat.eq_of_beq_eq_true hb
    obtain rfl := List.length_eq_zero_iff.1 this
    cases he
  · have hf' : fullB p = true := by rw [fullB, he]; rfl
    rw [t010_S hf', h010_S hf']; rfl
theorem x010_0 {r : Rc} {b : Go.Proofs.Ytbfebjmmpiffpaa.Os} {sc : Option Nat} {l : List Rc} :
    Takes Try.prog (tabT T) ra base 0 (codeOf 5 (false :: g0)) (p0T ⟨r, false, Os.none, true, b, false, Rs.none, none, true, Rs.of l, sc⟩ [] l.length) (p0H ⟨r, false, Os.none, true, b, false, Rs.none, none, true, Rs.of l, sc⟩ []) fun y => y = (.exit 0, mkT 161 (P0.fr ⟨r, false, Os.none, true, b, false, Rs.none, none, true, Rs.of l, sc⟩ ++ [(10, rs1 (fullB []) (1 + cond false 1 0 + cond true 1 0 + cond false 1 0) (Rs.of []) none)]), hp 0 (P0.fB ⟨r, false, Os.none, true, b, false, Rs.none, none, true, Rs.of l, sc⟩ ++ rsB (fullB []) (Rs.of []))) := by
  have hE := tabT_plain T
  have hS := S5_ok (ra := ra) (base := base) T
  have c1 : decide ((l.length : Int) < ((Rs.of l).ks.length : Int)) = false := decide_eq_false (by rw [ks_len]; omega)
  refine takes_of_tree hE (wE hE hS) (f := 5) (.inr (by kernel_rfl)) (hp_below _) (l0_010_0 T r b (Rs.of l) sc (l.length : Nat)) ?_
  simp only [Tree.holds, c1, Bool.false_eq_true, false_implies, true_and, forall_const]
  rfl
theorem t001_S {r : Rc} {w : Rs} {wc : Option Nat} {sc : Option Nat} {l q : List Rc} {i : Nat} (h : fullB q = true) : p0T ⟨r, false, Os.none, false, Os.none, true, w, wc, true, Rs.of l, sc⟩ q i = mkT 161 [(5, .ptr (.own 0 0 0 0)), (7, .nils), (8, .nils), (9, .slice (.own 1 0 0 6) w.ks.length wc), (10, .slice (.own 2 0 0 6) q.length none), (11, .slice (.own 3 0 0 6) l.length sc), (12, .int .i64 (i : Nat))] := by
  simp only [p0T, P0.at, P0.fr, os1, rs1, h, ks_len]; rfl
theorem t001_N {r : Rc} {w : Rs} {wc : Option Nat} {sc : Option Nat} {l : List Rc} {i : Nat} : p0T ⟨r, false, Os.none, false, Os.none, true, w, wc, true, Rs.of l, sc⟩ [] i = mkT 161 [(5, .ptr (.own 0 0 0 0)), (7, .nils), (8, .nils), (9, .slice (.own 1 0 0 6) w.ks.length wc), (10, .nils), (11, .slice (.own 2 0 0 6) l.length sc), (12, .int .i64 (i : Nat))] := by
  simp only [p0T, P0.at, P0.fr, os1, rs1, ks_len]; rfl
theorem h001_S {r : Rc} {w : Rs} {wc : Option Nat} {sc : Option Nat} {l q : List Rc} (h : fullB q = true) : p0H ⟨r, false, Os.none, false, Os.none, true, w, wc, true, Rs.of l, sc⟩ q = hp 0 [r.cells, w.blk, .segs [⟨q.length, 6, [.int .u32 (q.map Rc.key), .int .i64 (q.map Rc.time), .int .i64 (q.map Rc.val), .int .u8 (q.map Rc.side), .bool (q.map Rc.err), .bool (q.map Rc.late)]⟩], .segs [⟨l.length, 6, [.int .u32 (Rs.of l).ks, .int .i64 (Rs.of l).ts, .int .i64 (Rs.of l).vs, .int .u8 (Rs.of l).ss, .bool (Rs.of l).es, .bool (Rs.of l).ls]⟩]] := by
  simp only [p0H, P0.blks, P0.fB, osB, rsB, h, ← of_len', ← of_blk]; rfl
theorem h001_N {r : Rc} {w : Rs} {wc : Option Nat} {sc : Option Nat} {l : List Rc} : p0H ⟨r, false, Os.none, false, Os.none, true, w, wc, true, Rs.of l, sc⟩ [] = hp 0 [r.cells, w.blk, .segs [⟨l.length, 6, [.int .u32 (Rs.of l).ks, .int .i64 (Rs.of l).ts, .int .i64 (Rs.of l).vs, .int .u8 (Rs.of l).ss, .bool (Rs.of l).es, .bool (Rs.of l).ls]⟩]] := by
  simp only [← of_len']; rfl
theorem s001_1 {r : Rc} {w : Rs} {wc : Option Nat} {sc : Option Nat} {l q : List Rc} {i : Nat} {z : Rc} (hr : l[i]? = some z) (hl : l.length ≤ 1000000) (hq : q.length ≤ 3000000) (hf : fullB q = true) :
    Takes Try.prog (tabT T) ra base 0 (codeOf 5 (false :: g0)) (p0T ⟨r, false, Os.none, false, Os.none, true, w, wc, true, Rs.of l, sc⟩ q i) (p0H ⟨r, false, Os.none, false, Os.none, true, w, wc, true, Rs.of l, sc⟩ q) fun y => y = (.normal, p0T ⟨r, false, Os.none, false, Os.none, true, w, wc, true, Rs.of l, sc⟩ (q ++ fold (toO Os.none) [z]) (i + 1), p0H ⟨r, false, Os.none, false, Os.none, true, w, wc, true, Rs.of l, sc⟩ (q ++ fold (toO Os.none) [z])) := by
  have hE := tabT_plain T
  have hS := S5_ok (ra := ra) (base := base) T
  obtain ⟨e1, e2, e3, e4, e5, e6, e7⟩ := cols_of hr
  have er : (⟨z.key, z.time, z.val, z.side, z.err, z.late⟩ : Rc) = z := rfl
  have c1 : decide ((i : Int) < (l.length : Int)) = true := decide_eq_true (by omega)
  have c2 : decide (0 ≤ (i : Int)) = true := decide_eq_true (by omega)
  have c3 : decide (0 + Int.toNat (i : Int) < l.length) = true := decide_eq_true (by omega)
  have ht : wr .i64 ((i : Int) + 1) = ((i + 1 : Nat) : Int) := till (by omega)
  have hres : Ap.res ⟨false, Os.none, none, z⟩ = [z] := rfl
  have hlen : [z].length ≤ 729 := by simp
  have hpp : fold (toO Os.none) [z] = [z] := rfl
  rw [hpp]
  obtain ⟨k1, k2, k3, k4, k5, k6⟩ := tk_of q
  have hT : p0T ⟨r, false, Os.none, false, Os.none, true, w, wc, true, Rs.of l, sc⟩ q i = mkT 161 (P0.at ⟨r, false, Os.none, false, Os.none, true, w, wc, true, Rs.of l, sc⟩ true (.slice (.own 2 0 0 6) (Rs.of q).ks.length none) (i : Nat)) := by rw [p0T, hf]; rfl
  have hH : p0H ⟨r, false, Os.none, false, Os.none, true, w, wc, true, Rs.of l, sc⟩ q = hp 0 (P0.blks ⟨r, false, Os.none, false, Os.none, true, w, wc, true, Rs.of l, sc⟩ true (Rs.of q)) := by rw [p0H, hf]
  rw [hT, hH]
  refine takes_of_tree hE (wE hE hS) (f := 5) (.inr (by kernel_rfl)) (hp_below _) (l0_001_1 T r w wc (Rs.of l) sc (Rs.of q) (i : Nat)) ?_
  have c7 : decide (0 + [z].length ≤ [z].length) = true := decide_eq_true (by omega)
  have c8 : decide (0 + q.length ≤ q.length) = true := decide_eq_true (by omega)
  have c9 : decide (q.length * 32 ≤ 35184372088832) = true := room (by omega)
  have c10 : decide ((q.length + [z].length) * 32 ≤ 35184372088832) = true := room (by omega)
  simp only [e1, e2, e3, e4, e5, e6]
  simp only [er, ks_len, List.length_map, tkA', c1, c2, c3, c7, c10, k1, k2, k3, k4, k5, k6, c8, c9, hres, ht, Tree.holds, decide_true, Bool.and_self, Bool.and_true, Bool.true_and, true_and, and_true]
  refine ⟨fun _ => ?_, fun h => by cases h⟩
  rw [t001_S (fullB_app hf), h001_S (fullB_app hf)]
  simp only [List.map_append, List.length_append]; rfl
theorem x001_1 {r : Rc} {w : Rs} {wc : Option Nat} {sc : Option Nat} {l q : List Rc} (hf : fullB q = true) :
    Takes Try.prog (tabT T) ra base 0 (codeOf 5 (false :: g0)) (p0T ⟨r, false, Os.none, false, Os.none, true, w, wc, true, Rs.of l, sc⟩ q l.length) (p0H ⟨r, false, Os.none, false, Os.none, true, w, wc, true, Rs.of l, sc⟩ q) fun y => y = (.exit 0, mkT 161 (P0.fr ⟨r, false, Os.none, false, Os.none, true, w, wc, true, Rs.of l, sc⟩ ++ [(10, rs1 (fullB q) (1 + cond false 1 0 + cond false 1 0 + cond true 1 0) (Rs.of q) none)]), hp 0 (P0.fB ⟨r, false, Os.none, false, Os.none, true, w, wc, true, Rs.of l, sc⟩ ++ rsB (fullB q) (Rs.of q))) := by
  have hE := tabT_plain T
  have hS := S5_ok (ra := ra) (base := base) T
  have c1 : decide ((l.length : Int) < ((Rs.of l).ks.length : Int)) = false := decide_eq_false (by rw [ks_len]; omega)
  have hT : p0T ⟨r, false, Os.none, false, Os.none, true, w, wc, true, Rs.of l, sc⟩ q l.length = mkT 161 (P0.at ⟨r, false, Os.none, false, Os.none, true, w, wc, true, Rs.of l, sc⟩ true (.slice (.own 2 0 0 6) (Rs.of q).ks.length none) (l.length : Nat)) := by rw [p0T, hf]; rfl
  have hH : p0H ⟨r, false, Os.none, false, Os.none, true, w, wc, true, Rs.of l, sc⟩ q = hp 0 (P0.blks ⟨r, false, Os.none, false, Os.none, true, w, wc, true, Rs.of l, sc⟩ true (Rs.of q)) := by rw [p0H, hf]
  rw [hT, hH, hf]
  refine takes_of_tree hE (wE hE hS) (f := 5) (.inr (by kernel_rfl)) (hp_below _) (l0_001_1 T r w wc (Rs.of l) sc (Rs.of q) (l.length : Nat)) ?_
  simp only [Tree.holds, c1, Bool.false_eq_true, false_implies, true_and, forall_const]
  rfl
theorem s001_0 {r : Rc} {w : Rs} {wc : Option Nat} {sc : Option Nat} {l : List Rc} {i : Nat} {z : Rc} (hr : l[i]? = some z) (hl : l.length ≤ 1000000) :
    Takes Try.prog (tabT T) ra base 0 (codeOf 5 (false :: g0)) (p0T ⟨r, false, Os.none, false, Os.none, true, w, wc, true, Rs.of l, sc⟩ [] i) (p0H ⟨r, false, Os.none, false, Os.none, true, w, wc, true, Rs.of l, sc⟩ []) fun y => y = (.normal, p0T ⟨r, false, Os.none, false, Os.none, true, w, wc, true, Rs.of l, sc⟩ ([] ++ fold (toO Os.none) [z]) (i + 1), p0H ⟨r, false, Os.none, false, Os.none, true, w, wc, true, Rs.of l, sc⟩ ([] ++ fold (toO Os.none) [z])) := by
  have hE := tabT_plain T
  have hS := S5_ok (ra := ra) (base := base) T
  obtain ⟨e1, e2, e3, e4, e5, e6, e7⟩ := cols_of hr
  have er : (⟨z.key, z.time, z.val, z.side, z.err, z.late⟩ : Rc) = z := rfl
  have c1 : decide ((i : Int) < (l.length : Int)) = true := decide_eq_true (by omega)
  have c2 : decide (0 ≤ (i : Int)) = true := decide_eq_true (by omega)
  have c3 : decide (0 + Int.toNat (i : Int) < l.length) = true := decide_eq_true (by omega)
  have ht : wr .i64 ((i : Int) + 1) = ((i + 1 : Nat) : Int) := till (by omega)
  have hres : Ap.res ⟨false, Os.none, none, z⟩ = [z] := rfl
  have hlen : [z].length ≤ 729 := by simp
  have hpp : fold (toO Os.none) [z] = [z] := rfl
  rw [hpp]
  refine takes_of_tree hE (wE hE hS) (f := 5) (.inr (by kernel_rfl)) (hp_below _) (l0_001_0 T r w wc (Rs.of l) sc (i : Nat)) ?_
  have c7 : decide (0 + [z].length ≤ [z].length) = true := decide_eq_true (by omega)
  have c10 : decide ([z].length * 32 ≤ 35184372088832) = true := room (by omega)
  simp only [e1, e2, e3, e4, e5, e6]
  simp only [er, ks_len, List.length_map, tkA', c1, c2, c3, c7, c10, List.nil_append, hres, ht, Tree.holds, decide_true, Bool.and_self, Bool.and_true, Bool.true_and, true_and, and_true]
  refine ⟨fun _ => ?_, fun h => by cases h⟩
  rw [t001_S (q := [z]) rfl, h001_S (q := [z]) rfl]; rfl
theorem x001_0 {r : Rc} {w : Rs} {wc : Option Nat} {sc : Option Nat} {l : List Rc} :
    Takes Try.prog (tabT T) ra base 0 (codeOf 5 (false :: g0)) (p0T ⟨r, false, Os.none, false, Os.none, true, w, wc, true, Rs.of l, sc⟩ [] l.length) (p0H ⟨r, false, Os.none, false, Os.none, true, w, wc, true, Rs.of l, sc⟩ []) fun y => y = (.exit 0, mkT 161 (P0.fr ⟨r, false, Os.none, false, Os.none, true, w, wc, true, Rs.of l, sc⟩ ++ [(10, rs1 (fullB []) (1 + cond false 1 0 + cond false 1 0 + cond true 1 0) (Rs.of []) none)]), hp 0 (P0.fB ⟨r, false, Os.none, false, Os.none, true, w, wc, true, Rs.of l, sc⟩ ++ rsB (fullB []) (Rs.of []))) := by
  have hE := tabT_plain T
  have hS := S5_ok (ra := ra) (base := base) T
  have c1 : decide ((l.length : Int) < ((Rs.of l).ks.length : Int)) = false := decide_eq_false (by rw [ks_len]; omega)
  refine takes_of_tree hE (wE hE hS) (f := 5) (.inr (by kernel_rfl)) (hp_below _) (l0_001_0 T r w wc (Rs.of l) sc (l.length : Nat)) ?_
  simp only [Tree.holds, c1, Bool.false_eq_true, false_implies, true_and, forall_const]
  rfl
theorem t000_S {r : Rc} {sc : Option Nat} {l q : List Rc} {i : Nat} (h : fullB q = true) : p0T ⟨r, false, Os.none, false, Os.none, false, Rs.none, none, true, Rs.of l, sc⟩ q i = mkT 161 [(5, .ptr (.own 0 0 0 0)), (7, .nils), (8, .nils), (9, .nils), (10, .slice (.own 1 0 0 6) q.length none), (11, .slice (.own 2 0 0 6) l.length sc), (12, .int .i64 (i : Nat))] := by
  simp only [p0T, P0.at, P0.fr, os1, rs1, h, ks_len]; rfl
theorem t000_N {r : Rc} {sc : Option Nat} {l : List Rc} {i : Nat} : p0T ⟨r, false, Os.none, false, Os.none, false, Rs.none, none, true, Rs.of l, sc⟩ [] i = mkT 161 [(5, .ptr (.own 0 0 0 0)), (7, .nils), (8, .nils), (9, .nils), (10, .nils), (11, .slice (.own 1 0 0 6) l.length sc), (12, .int .i64 (i : Nat))] := by
  simp only [p0T, P0.at, P0.fr, os1, rs1, ks_len]; rfl
theorem h000_S {r : Rc} {sc : Option Nat} {l q : List Rc} (h : fullB q = true) : p0H ⟨r, false, Os.none, false, Os.none, false, Rs.none, none, true, Rs.of l, sc⟩ q = hp 0 [r.cells, .segs [⟨q.length, 6, [.int .u32 (q.map Rc.key), .int .i64 (q.map Rc.time), .int .i64 (q.map Rc.val), .int .u8 (q.map Rc.side), .bool (q.map Rc.err), .bool (q.map Rc.late)]⟩], .segs [⟨l.length, 6, [.int .u32 (Rs.of l).ks, .int .i64 (Rs.of l).ts, .int .i64 (Rs.of l).vs, .int .u8 (Rs.of l).ss, .bool (Rs.of l).es, .bool (Rs.of l).ls]⟩]] := by
  simp only [p0H, P0.blks, P0.fB, osB, rsB, h, ← of_len', ← of_blk]; rfl
theorem h000_N {r : Rc} {sc : Option Nat} {l : List Rc} : p0H ⟨r, false, Os.none, false, Os.none, false, Rs.none, none, true, Rs.of l, sc⟩ [] = hp 0 [r.cells, .segs [⟨l.length, 6, [.int .u32 (Rs.of l).ks, .int .i64 (Rs.of l).ts, .int .i64 (Rs.of l).vs, .int .u8 (Rs.of l).ss, .bool (Rs.of l).es, .bool (Rs.of l).ls]⟩]] := by
  simp only [← of_len']; rfl
theorem s000_1 {r : Rc} {sc : Option Nat} {l q : List Rc} {i : Nat} {z : Rc} (hr : l[i]? = some z) (hl : l.length ≤ 1000000) (hq : q.length ≤ 3000000) (hf : fullB q = true) :
    Takes Try.prog (tabT T) ra base 0 (codeOf 5 (false :: g0)) (p0T ⟨r, false, Os.none, false, Os.none, false, Rs.none, none, true, Rs.of l, sc⟩ q i) (p0H ⟨r, false, Os.none, false, Os.none, false, Rs.none, none, true, Rs.of l, sc⟩ q) fun y => y = (.normal, p0T ⟨r, false, Os.none, false, Os.none, false, Rs.none, none, true, Rs.of l, sc⟩ (q ++ fold (toO Os.none) [z]) (i + 1), p0H ⟨r, false, Os.none, false, Os.none, false, Rs.none, none, true, Rs.of l, sc⟩ (q ++ fold (toO Os.none) [z])) := by
  have hE := tabT_plain T
  have hS := S5_ok (ra := ra) (base := base) T
  obtain ⟨e1, e2, e3, e4, e5, e6, e7⟩ := cols_of hr
  have er : (⟨z.key, z.time, z.val, z.side, z.err, z.late⟩ : Rc) = z := rfl
  have c1 : decide ((i : Int) < (l.length : Int)) = true := decide_eq_true (by omega)
  have c2 : decide (0 ≤ (i : Int)) = true := decide_eq_true (by omega)
  have c3 : decide (0 + Int.toNat (i : Int) < l.length) = true := decide_eq_true (by omega)
  have ht : wr .i64 ((i : Int) + 1) = ((i + 1 : Nat) : Int) := till (by omega)
  have hres : Ap.res ⟨false, Os.none, none, z⟩ = [z] := rfl
  have hlen : [z].length ≤ 729 := by simp
  have hpp : fold (toO Os.none) [z] = [z] := rfl
  rw [hpp]
  obtain ⟨k1, k2, k3, k4, k5, k6⟩ := tk_of q
  have hT : p0T ⟨r, false, Os.none, false, Os.none, false, Rs.none, none, true, Rs.of l, sc⟩ q i = mkT 161 (P0.at ⟨r, false, Os.none, false, Os.none, false, Rs.none, none, true, Rs.of l, sc⟩ true (.slice (.own 1 0 0 6) (Rs.of q).ks.length none) (i : Nat)) := by rw [p0T, hf]; rfl
  have hH : p0H ⟨r, false, Os.none, false, Os.none, false, Rs.none, none, true, Rs.of l, sc⟩ q = hp 0 (P0.blks ⟨r, false, Os.none, false, Os.none, false, Rs.none, none, true, Rs.of l, sc⟩ true (Rs.of q)) := by rw [p0H, hf]
  rw [hT, hH]
  refine takes_of_tree hE (wE hE hS) (f := 5) (.inr (by kernel_rfl)) (hp_below _) (l0_000_1 T r (Rs.of l) sc (Rs.of q) (i : Nat)) ?_
  have c7 : decide (0 + [z].length ≤ [z].length) = true := decide_eq_true (by omega)
  have c8 : decide (0 + q.length ≤ q.length) = true := decide_eq_true (by omega)
  have c9 : decide (q.length * 32 ≤ 35184372088832) = true := room (by omega)
  have c10 : decide ((q.length + [z].length) * 32 ≤ 35184372088832) = true := room (by omega)
  simp only [e1, e2, e3, e4, e5, e6]
  simp only [er, ks_len, List.length_map, tkA', c1, c2, c3, c7, c10, k1, k2, k3, k4, k5, k6, c8, c9, hres, ht, Tree.holds, decide_true, Bool.and_self, Bool.and_true, Bool.true_and, true_and, and_true]
  refine ⟨fun _ => ?_, fun h => by cases h⟩
  rw [t000_S (fullB_app hf), h000_S (fullB_app hf)]
  simp only [List.map_append, List.length_append]; rfl
theorem x000_1 {r : Rc} {sc : Option Nat} {l q : List Rc} (hf : fullB q = true) :
    Takes Try.prog (tabT T) ra base 0 (codeOf 5 (false :: g0)) (p0T ⟨r, false, Os.none, false, Os.none, false, Rs.none, none, true, Rs.of l, sc⟩ q l.length) (p0H ⟨r, false, Os.none, false, Os.none, false, Rs.none, none, true, Rs.of l, sc⟩ q) fun y => y = (.exit 0, mkT 161 (P0.fr ⟨r, false, Os.none, false, Os.none, false, Rs.none, none, true, Rs.of l, sc⟩ ++ [(10, rs1 (fullB q) (1 + cond false 1 0 + cond false 1 0 + cond false 1 0) (Rs.of q) none)]), hp 0 (P0.fB ⟨r, false, Os.none, false, Os.none, false, Rs.none, none, true, Rs.of l, sc⟩ ++ rsB (fullB q) (Rs.of q))) := by
  have hE := tabT_plain T
  have hS := S5_ok (ra := ra) (base := base) T
  have c1 : decide ((l.length : Int) < ((Rs.of l).ks.length : Int)) = false := decide_eq_false (by rw [ks_len]; omega)
  have hT : p0T ⟨r, false, Os.none, false, Os.none, false, Rs.none, none, true, Rs.of l, sc⟩ q l.length = mkT 161 (P0.at ⟨r, false, Os.none, false, Os.none, false, Rs.none, none, true, Rs.of l, sc⟩ true (.slice (.own 1 0 0 6) (Rs.of q).ks.length none) (l.length : Nat)) := by rw [p0T, hf]; rfl
  have hH : p0H ⟨r, false, Os.none, false, Os.none, false, Rs.none, none, true, Rs.of l, sc⟩ q = hp 0 (P0.blks ⟨r, false, Os.none, false, Os.none, false, Rs.none, none, true, Rs.of l, sc⟩ true (Rs.of q)) := by rw [p0H, hf]
  rw [hT, hH, hf]
  refine takes_of_tree hE (wE hE hS) (f := 5) (.inr (by kernel_rfl)) (hp_below _) (l0_000_1 T r (Rs.of l) sc (Rs.of q) (l.length : Nat)) ?_
  simp only [Tree.holds, c1, Bool.false_eq_true, false_implies, true_and, forall_const]
  rfl
theorem s000_0 {r : Rc} {sc : Option Nat} {l : List Rc} {i : Nat} {z : Rc} (hr : l[i]? = some z) (hl : l.length ≤ 1000000) :
    Takes Try.prog (tabT T) ra base 0 (codeOf 5 (false :: g0)) (p0T ⟨r, false, Os.none, false, Os.none, false, Rs.none, none, true, Rs.of l, sc⟩ [] i) (p0H ⟨r, false, Os.none, false, Os.none, false, Rs.none, none, true, Rs.of l, sc⟩ []) fun y => y = (.normal, p0T ⟨r, false, Os.none, false, Os.none, false, Rs.none, none, true, Rs.of l, sc⟩ ([] ++ fold (toO Os.none) [z]) (i + 1), p0H ⟨r, false, Os.none, false, Os.none, false, Rs.none, none, true, Rs.of l, sc⟩ ([] ++ fold (toO Os.none) [z])) := by
  have hE := tabT_plain T
  have hS := S5_ok (ra := ra) (base := base) T
  obtain ⟨e1, e2, e3, e4, e5, e6, e7⟩ := cols_of hr
  have er : (⟨z.key, z.time, z.val, z.side, z.err, z.late⟩ : Rc) = z := rfl
  have c1 : decide ((i : Int) < (l.length : Int)) = true := decide_eq_true (by omega)
  have c2 : decide (0 ≤ (i : Int)) = true := decide_eq_true (by omega)
  have c3 : decide (0 + Int.toNat (i : Int) < l.length) = true := decide_eq_true (by omega)
  have ht : wr .i64 ((i : Int) + 1) = ((i + 1 : Nat) : Int) := till (by omega)
  have hres : Ap.res ⟨false, Os.none, none, z⟩ = [z] := rfl
  have hlen : [z].length ≤ 729 := by simp
  have hpp : fold (toO Os.none) [z] = [z] := rfl
  rw [hpp]
  refine takes_of_tree hE (wE hE hS) (f := 5) (.inr (by kernel_rfl)) (hp_below _) (l0_000_0 T r (Rs.of l) sc (i : Nat)) ?_
  have c7 : decide (0 + [z].length ≤ [z].length) = true := decide_eq_true (by omega)
  have c10 : decide ([z].length * 32 ≤ 35184372088832) = true := room (by omega)
  simp only [e1, e2, e3, e4, e5, e6]
  simp only [er, ks_len, List.length_map, tkA', c1, c2, c3, c7, c10, List.nil_append, hres, ht, Tree.holds, decide_true, Bool.and_self, Bool.and_true, Bool.true_and, true_and, and_true]
  refine ⟨fun _ => ?_, fun h => by cases h⟩
  rw [t000_S (q := [z]) rfl, h000_S (q := [z]) rfl]; rfl
theorem x000_0 {r : Rc} {sc : Option Nat} {l : List Rc} :
    Takes Try.prog (tabT T) ra base 0 (codeOf 5 (false :: g0)) (p0T ⟨r, false, Os.none, false, Os.none, false, Rs.none, none, true, Rs.of l, sc⟩ [] l.length) (p0H ⟨r, false, Os.none, false, Os.none, false, Rs.none, none, true, Rs.of l, sc⟩ []) fun y => y = (.exit 0, mkT 161 (P0.fr ⟨r, false, Os.none, false, Os.none, false, Rs.none, none, true, Rs.of l, sc⟩ ++ [(10, rs1 (fullB []) (1 + cond false 1 0 + cond false 1 0 + cond false 1 0) (Rs.of []) none)]), hp 0 (P0.fB ⟨r, false, Os.none, false, Os.none, false, Rs.none, none, true, Rs.of l, sc⟩ ++ rsB (fullB []) (Rs.of []))) := by
  have hE := tabT_plain T
  have hS := S5_ok (ra := ra) (base := base) T
  have c1 : decide ((l.length : Int) < ((Rs.of l).ks.length : Int)) = false := decide_eq_false (by rw [ks_len]; omega)
  refine takes_of_tree hE (wE hE hS) (f := 5) (.inr (by kernel_rfl)) (hp_below _) (l0_000_0 T r (Rs.of l) sc (l.length : Nat)) ?_
  simp only [Tree.holds, c1, Bool.false_eq_true, false_implies, true_and, forall_const]
  rfl
end
end Go.Proofs.Ytbfebjmmpiffpaa
