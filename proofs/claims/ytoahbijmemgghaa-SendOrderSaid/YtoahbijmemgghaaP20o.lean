/- send: SendOrder: the arms keep what holds. -/
import Derived.Test.YtoahbijmemgghaaT20o
import Derived.Test.YtoahbijmemgghaaP20n
set_option linter.unusedSimpArgs false
namespace Go.Proofs.Ytoahbijmemgghaa
open Ab

section
variable {ra : Nat → Nat → Nat × Nat} {base : Nat} {a b : List Int}

theorem tabC_plain (a b : List Int) : Plain (tabC a b) := by
  intro tid par j v hv
  obtain ⟨_, s, hs, rfl⟩ := cellOf_seg hv
  simp only [tabC] at hs
  have : j % 2 = 0 ∨ j % 2 = 1 := by omega
  rcases this with e | e <;> rw [e] at hs <;> simp at hs <;> subst hs <;> rfl

theorem wrk {t : Int} (h0 : 0 ≤ t) (h1 : t ≤ 100000) : wr .u64 (wr .i64 t) = t := by
  have e : wr .i64 t = t := wr_in ⟨by omega, by omega⟩
  rw [e]; exact wr_u64 (by omega)
theorem newK {n : Int} (h : newOk n = true) : 1 ≤ n ∧ n ≤ 16 := by simpa only [newOk, Bool.and_eq_true, decide_eq_true_eq] using h

variable {i p k : Int}
theorem mk0 {m : Int} (H : Hold i p k 0 m 0 [] [] [] [] [] 0 0) : Sv.ok i p k (.s0 k m) = true := by
  rw [Sv.ok, inv_iff.2 H, decide_eq_true rfl]; rfl
theorem mk1 {x : Sd} (hk : x.k = k) (hx : okSd x = true) (H : Hold i p k x.b x.m x.n x.l [] [] [] [] 0 0) : Sv.ok i p k (.s1 x) = true := by
  rw [Sv.ok, inv_iff.2 H, hx, decide_eq_true hk]; rfl
theorem mk2 {x : Sd} {es : List Int} (hk : x.k = k) (hx : okSd x = true) (H : Hold i p k x.b x.m x.n x.l es [] [] [] 0 0) : Sv.ok i p k (.s2 x es) = true := by
  rw [Sv.ok, inv_iff.2 H, hx, decide_eq_true hk]; rfl
theorem mk3 {x : Sd} {es an rs : List Int} (hk : x.k = k) (hx : okSd x = true) (H : Hold i p k x.b x.m x.n x.l es an rs [] 0 0) : Sv.ok i p k (.s3 x es an rs) = true := by
  rw [Sv.ok, inv_iff.2 H, hx, decide_eq_true hk]; rfl
theorem mk4 {x : Sd} {es an rs tk : List Int} {f q : Int} (hk : x.k = k) (hx : okSd x = true) (H : Hold i p k x.b x.m x.n x.l es an rs tk f q) : Sv.ok i p k (.s4 x es an rs tk f q) = true := by
  rw [Sv.ok, inv_iff.2 H, hx, decide_eq_true hk]; rfl
theorem un0 {k' m : Int} (h : Sv.ok i p k (.s0 k' m) = true) : k' = k ∧ Hold i p k 0 m 0 [] [] [] [] [] 0 0 := by
  simp only [Sv.ok, Bool.and_eq_true, decide_eq_true_eq, inv_iff] at h; exact h
theorem un1 {x : Sd} (h : Sv.ok i p k (.s1 x) = true) : x.k = k ∧ okSd x = true ∧ Hold i p k x.b x.m x.n x.l [] [] [] [] 0 0 := by
  simp only [Sv.ok, Bool.and_eq_true, decide_eq_true_eq, inv_iff] at h; exact h
theorem un2 {x : Sd} {es : List Int} (h : Sv.ok i p k (.s2 x es) = true) : x.k = k ∧ okSd x = true ∧ Hold i p k x.b x.m x.n x.l es [] [] [] 0 0 := by
  simp only [Sv.ok, Bool.and_eq_true, decide_eq_true_eq, inv_iff] at h; exact h
theorem un3 {x : Sd} {es an rs : List Int} (h : Sv.ok i p k (.s3 x es an rs) = true) : x.k = k ∧ okSd x = true ∧ Hold i p k x.b x.m x.n x.l es an rs [] 0 0 := by
  simp only [Sv.ok, Bool.and_eq_true, decide_eq_true_eq, inv_iff] at h; exact h
theorem un4 {x : Sd} {es an rs tk : List Int} {f q : Int} (h : Sv.ok i p k (.s4 x es an rs tk f q) = true) : x.k = k ∧ okSd x = true ∧ Hold i p k x.b x.m x.n x.l es an rs tk f q := by
  simp only [Sv.ok, Bool.and_eq_true, decide_eq_true_eq, inv_iff] at h; exact h

section
variable {v : Nat} {s : Sv} {j e : Int} {z : State}
theorem fin0 (p' : Int) (k' m : Int) (h : Sv.ok (i + 1) p' k (.s0 k' m) = true) (hz : z = (.normal, mkT 314 (Ks.ins ⟨v, k, p', i⟩ .nils), hp 0 (Sv.bs (.s0 k' m)))) : PostL 314 (⟨⟨v, k, p, i⟩, s, j, e⟩ : Os) z altsO := .inl ⟨⟨p', k', m⟩, h, hz⟩
theorem fin1 (p' : Int) (x : Sd) (h : Sv.ok (i + 1) p' k (.s1 x) = true) (hz : z = (.normal, mkT 314 (Ks.ins ⟨v, k, p', i⟩ .nils), hp 0 (Sv.bs (.s1 x)))) : PostL 314 (⟨⟨v, k, p, i⟩, s, j, e⟩ : Os) z altsO := .inr (.inl ⟨⟨p', x⟩, h, hz⟩)
theorem fin2 (p' : Int) (x : Sd) (es : List Int) (h : Sv.ok (i + 1) p' k (.s2 x es) = true) (hz : z = (.normal, mkT 314 (Ks.ins ⟨v, k, p', i⟩ (.slice (.own 2 0 0 1) es.length none)), hp 0 (Sv.bs (.s2 x es)))) : PostL 314 (⟨⟨v, k, p, i⟩, s, j, e⟩ : Os) z altsO := .inr (.inr (.inl ⟨⟨p', x, es⟩, h, hz⟩))
theorem fin3 (p' : Int) (x : Sd) (es an rs : List Int) (h : Sv.ok (i + 1) p' k (.s3 x es an rs) = true) (hz : z = (.normal, mkT 314 (Ks.ins ⟨v, k, p', i⟩ (.slice (.own 2 0 0 1) es.length none)), hp 0 (Sv.bs (.s3 x es an rs)))) : PostL 314 (⟨⟨v, k, p, i⟩, s, j, e⟩ : Os) z altsO := .inr (.inr (.inr (.inl ⟨⟨p', x, es, an, rs⟩, h, hz⟩)))
theorem fin4 (p' : Int) (x : Sd) (es an rs tk : List Int) (f q : Int) (h : Sv.ok (i + 1) p' k (.s4 x es an rs tk f q) = true) (hz : z = (.normal, mkT 314 (Ks.ins ⟨v, k, p', i⟩ (.slice (.own 2 0 0 1) es.length none)), hp 0 (Sv.bs (.s4 x es an rs tk f q)))) : PostL 314 (⟨⟨v, k, p, i⟩, s, j, e⟩ : Os) z altsO := .inr (.inr (.inr (.inr ⟨⟨p', x, es, an, rs, tk, f, q⟩, h, hz⟩)))
end

theorem okG_un {y : Os} (h : okG a y = true) : y.s.ok y.g.i y.g.p y.g.k = true ∧ 0 ≤ y.g.i ∧ y.g.i < 200 ∧ y.g.i < y.g.v ∧ y.g.v = a.length ∧ 0 ≤ y.j ∧ y.j < 256 := by
  simp only [okG, Bool.and_eq_true, decide_eq_true_eq] at h; exact h

theorem o4_takes (y : Os) (h : okG a y = true) : Takes Try.prog (tabC a b) ra base 0 (codeOf 4 pO4) (mkT 314 (y.g.ins y.s.el ++ noT' y)) (hp 0 y.s.bs) fun z => PostL 314 y z altsO := by
  have hE := tabC_plain a b
  have hS := S2_ok (E := tabC a b) (ra := ra) (base := base) hE
  obtain ⟨⟨v, k, p, i⟩, s, j, e⟩ := y
  obtain ⟨hs, i0, i2, iv, va, j0, j2⟩ := okG_un h
  simp only at hs i0 i2 iv va j0 j2
  cases s with
  | s0 k' m =>
    obtain ⟨rfl, H⟩ := un0 hs
    have U := H.up i2
    have hk := newK H.hk
    have o1 : Sx.ok (.z k' 0 m) = true := okN_iff.2 ⟨by decide, by omega, by omega, by decide, by decide, H.m0, by have := H.mm; omega⟩
    refine takes_of_treeQ hE (W_ok hS noL_ok) noT_ok (f := 4) (.inr (by kernel_rfl)) (hp_below _) (o4_s0 a b v k' p i k' m) ?_
    exact fin0 p _ m (mk0 U) rfl
  | s1 x =>
    obtain ⟨xk, hx, H⟩ := un1 hs
    have U := H.up i2
    have hk := newK H.hk
    have h1 := H.ai
    have h2 := H.ei
    have o1 : Sx.ok (.q x) = true := hx
    refine takes_of_treeQ hE (W_ok hS noL_ok) noT_ok (f := 4) (.inr (by kernel_rfl)) (hp_below _) (o4_s1 a b v k p i x) ?_
    exact fin1 p x (mk1 xk hx (U)) rfl
  | s2 x es =>
    obtain ⟨xk, hx, H⟩ := un2 hs
    have U := H.up i2
    have hk := newK H.hk
    have h1 := H.ai
    have h2 := H.ei
    have o1 : Sx.ok (.q x) = true := hx
    refine takes_of_treeQ hE (W_ok hS noL_ok) noT_ok (f := 4) (.inr (by kernel_rfl)) (hp_below _) (o4_s2 a b v k p i x es) ?_
    exact fin2 p x es (mk2 xk hx (U)) rfl
  | s3 x es an rs =>
    obtain ⟨xk, hx, H⟩ := un3 hs
    have U := H.up i2
    have hk := newK H.hk
    have h1 := H.ai
    have h2 := H.ei
    have o1 : Sx.ok (.q x) = true := hx
    refine takes_of_treeQ hE (W_ok hS noL_ok) noT_ok (f := 4) (.inr (by kernel_rfl)) (hp_below _) (o4_s3 a b v k p i x es an rs) ?_
    exact fin3 p x es an rs (mk3 xk hx (U)) rfl
  | s4 x es an rs tk f q =>
    obtain ⟨xk, hx, H⟩ := un4 hs
    have U := H.up i2
    have hk := newK H.hk
    have h1 := H.ai
    have h2 := H.ei
    have o1 : Sx.ok (.q x) = true := hx
    refine takes_of_treeQ hE (W_ok hS noL_ok) noT_ok (f := 4) (.inr (by kernel_rfl)) (hp_below _) (o4_s4 a b v k p i x es an rs tk f q) ?_
    simp only [TreeQ.holds, decide_eq_true_eq, decide_eq_false_iff_not]
    refine ⟨fun q1 => ⟨by omega, by omega, ?_⟩, fun q1 => fin4 p x es an rs tk f q (mk4 xk hx (U)) rfl⟩
    have q2 := H.qk
    have w1 : wr .i64 (q - 1) = q - 1 := wr_in ⟨by omega, by omega⟩
    rw [w1, wrk (t := k - (q - 1)) (by omega) (by omega)]
    exact fin4 p x es (an ++ [f]) (rs ++ [k - (q - 1)]) tk f (q - 1) (mk4 xk hx ((U.pop q1).ans (by omega))) (by simp only [Sv.bs, len_app, ← elB_app, ← tkB_app, ← anB_app H.ar]; rfl)

theorem o1_takes (y : Os) (h : okG a y = true) : Takes Try.prog (tabC a b) ra base 0 (codeOf 4 pO1) (mkT 314 (y.g.ins y.s.el ++ jT y)) (hp 0 y.s.bs) fun z => PostL 314 y z altsO := by
  have hE := tabC_plain a b
  have hS := S2_ok (E := tabC a b) (ra := ra) (base := base) hE
  obtain ⟨⟨v, k, p, i⟩, s, j, e⟩ := y
  obtain ⟨hs, i0, i2, iv, va, j0, j2⟩ := okG_un h
  simp only at hs i0 i2 iv va j0 j2
  cases s with
  | s0 k' m =>
    obtain ⟨rfl, H⟩ := un0 hs
    have U := H.up i2
    have hk := newK H.hk
    have o1 : Sx.ok (.z k' 0 m) = true := okN_iff.2 ⟨by decide, by omega, by omega, by decide, by decide, H.m0, by have := H.mm; omega⟩
    have hj : i64 j = true := i64_iff.2 ⟨by omega, by omega⟩
    refine takes_of_treeQ hE (W_ok hS noL_ok) noT_ok (f := 4) (.inr (by kernel_rfl)) (hp_below _) (o1_s0 a b v k' p i j k' m) ?_
    simp only [TreeQ.holds, decide_true, Bool.and_self, Bool.and_true, Bool.true_and, true_and, o1, hj]
    exact fin0 p _ m (mk0 U) rfl
  | s1 x =>
    obtain ⟨xk, hx, H⟩ := un1 hs
    have U := H.up i2
    have hk := newK H.hk
    have h1 := H.ai
    have h2 := H.ei
    have o1 : Sx.ok (.q x) = true := hx
    have hj : i64 j = true := i64_iff.2 ⟨by omega, by omega⟩
    refine takes_of_treeQ hE (W_ok hS noL_ok) noT_ok (f := 4) (.inr (by kernel_rfl)) (hp_below _) (o1_s1 a b v k p i j x) ?_
    by_cases hn : x.n = 0
    · have c1 : nIs (Sx.n (.q x)) = false := decide_eq_false (fun hh => hh hn)
      have c2 : decide (0 < ((Sx.n (.q x) : Nat) : Int)) = false := decide_eq_false (by show ¬ (0 < (x.n : Int)); omega)
      simp only [TreeQ.holds, decide_true, Bool.and_self, Bool.and_true, Bool.true_and, true_and, qSame_self, cap_self, o1, hj, c1, c2, Bool.not_true, Bool.false_eq_true, false_implies, true_implies, forall_const]
      exact fin1 p x (mk1 xk hx (U)) rfl
    · have c1 : nIs (Sx.n (.q x)) = true := decide_eq_true hn
      have c2 : decide (0 < ((Sx.n (.q x) : Nat) : Int)) = true := decide_eq_true (by show 0 < (x.n : Int); omega)
      obtain ⟨n1, n2, n3⟩ := next_facts H (by omega) j
      have hp2 := H.pi
      have hb0 := H.b0
      have hbn := H.bn
      obtain ⟨S, hS'⟩ : ∃ S, nSeq (Sx.n (.q x)) (Sx.b (.q x)) (Sx.m (.q x)) j = S := ⟨_, rfl⟩
      have hT : nTime (Sx.l (.q x)) (Sx.b (.q x)) (Sx.m (.q x)) j = S := n1.trans hS'
      have s1 : x.b ≤ S := by rw [← hS']; exact n2
      have s2 : S < p := by rw [← hS']; exact n3
      have wS : wr .i64 S = S := wr_in ⟨by omega, by omega⟩
      have d1 : decide (S < Sx.b (.q x)) = false := decide_eq_false (by show ¬ S < x.b; omega)
      have w1 : wr .u64 ((Sx.n (.q x) : Nat) : Int) = (x.n : Int) := wr_u64 ⟨by show 0 ≤ (x.n : Int); omega, by show (x.n : Int) < 18446744073709551616; omega⟩
      have w2 : wr .u64 (Sx.b (.q x) + (x.n : Int)) = x.b + x.n := wr_u64 ⟨by show 0 ≤ x.b + (x.n : Int); omega, by show x.b + (x.n : Int) < 18446744073709551616; omega⟩
      have d2 : decide (x.b + (x.n : Int) ≤ S) = false := decide_eq_false (by omega)
      have d3 : decide (0 ≤ i) = true := decide_eq_true i0
      have d4 : decide (i < (v : Int)) = true := decide_eq_true iv
      have d5 : decide (0 + Int.toNat i < a.length) = true := decide_eq_true (by omega)
      simp only [TreeQ.holds, decide_true, Bool.and_self, Bool.and_true, Bool.true_and, true_and, qSame_self, cap_self, o1, hj, c1, c2, hS', hT, wS, w1, w2, d1, d2, d3, d4, d5, Bool.not_true, Bool.false_eq_true, Bool.true_eq_false, false_implies, true_implies, forall_const, decide_eq_true_eq, decide_eq_false_iff_not, and_true]
      have hq0 := H.q0
      have hqk := H.qk
      refine ⟨fun _ => ⟨fun g1 => ⟨fun g2 => ?_, fun g2 => ?_⟩, fun g1 => ?_⟩, fun _ => ?_⟩
      · subst g1
        rw [wrk (t := k - 1) (by omega) (by omega)]
        exact fin4 p x ([] ++ [0]) ([] ++ [1]) ([] ++ [k - 1]) ([] ++ [0]) 1 1 (mk4 xk hx (((U.el (e := 0) (by omega) (by omega) s2).take s2 g2).ans (by simp only [List.length_nil] at *; omega))) (by simp only [Sv.bs, List.nil_append]; rfl)
      · rw [wrk (t := k - 0) (by omega) (by omega)]
        exact fin3 p x ([] ++ [S]) ([] ++ [0]) ([] ++ [k - 0]) (mk3 xk hx ((U.el (e := S) (by omega) (by omega) s2).ans (by simp only [List.length_nil] at *; omega))) (by simp only [Sv.bs, List.nil_append]; rfl)
      · rw [wrk (t := k - 0) (by omega) (by omega)]
        exact fin3 p x ([] ++ [S]) ([] ++ [0]) ([] ++ [k - 0]) (mk3 xk hx ((U.el (e := S) (by omega) (by omega) s2).ans (by simp only [List.length_nil] at *; omega))) (by simp only [Sv.bs, List.nil_append]; rfl)
      · exact fin2 p x ([] ++ [S]) (mk2 xk hx (U.el (e := S) (by omega) (by omega) s2)) (by simp only [Sv.bs, List.nil_append]; rfl)
  | s2 x es =>
    obtain ⟨xk, hx, H⟩ := un2 hs
    have U := H.up i2
    have hk := newK H.hk
    have h1 := H.ai
    have h2 := H.ei
    have o1 : Sx.ok (.q x) = true := hx
    have hj : i64 j = true := i64_iff.2 ⟨by omega, by omega⟩
    refine takes_of_treeQ hE (W_ok hS noL_ok) noT_ok (f := 4) (.inr (by kernel_rfl)) (hp_below _) (o1_s2 a b v k p i j x es) ?_
    by_cases hn : x.n = 0
    · have c1 : nIs (Sx.n (.q x)) = false := decide_eq_false (fun hh => hh hn)
      have c2 : decide (0 < ((Sx.n (.q x) : Nat) : Int)) = false := decide_eq_false (by show ¬ (0 < (x.n : Int)); omega)
      simp only [TreeQ.holds, decide_true, Bool.and_self, Bool.and_true, Bool.true_and, true_and, qSame_self, cap_self, o1, hj, c1, c2, Bool.not_true, Bool.false_eq_true, false_implies, true_implies, forall_const]
      exact fin2 p x es (mk2 xk hx (U)) rfl
    · have c1 : nIs (Sx.n (.q x)) = true := decide_eq_true hn
      have c2 : decide (0 < ((Sx.n (.q x) : Nat) : Int)) = true := decide_eq_true (by show 0 < (x.n : Int); omega)
      obtain ⟨n1, n2, n3⟩ := next_facts H (by omega) j
      have hp2 := H.pi
      have hb0 := H.b0
      have hbn := H.bn
      obtain ⟨S, hS'⟩ : ∃ S, nSeq (Sx.n (.q x)) (Sx.b (.q x)) (Sx.m (.q x)) j = S := ⟨_, rfl⟩
      have hT : nTime (Sx.l (.q x)) (Sx.b (.q x)) (Sx.m (.q x)) j = S := n1.trans hS'
      have s1 : x.b ≤ S := by rw [← hS']; exact n2
      have s2 : S < p := by rw [← hS']; exact n3
      have wS : wr .i64 S = S := wr_in ⟨by omega, by omega⟩
      have d1 : decide (S < Sx.b (.q x)) = false := decide_eq_false (by show ¬ S < x.b; omega)
      have w1 : wr .u64 ((Sx.n (.q x) : Nat) : Int) = (x.n : Int) := wr_u64 ⟨by show 0 ≤ (x.n : Int); omega, by show (x.n : Int) < 18446744073709551616; omega⟩
      have w2 : wr .u64 (Sx.b (.q x) + (x.n : Int)) = x.b + x.n := wr_u64 ⟨by show 0 ≤ x.b + (x.n : Int); omega, by show x.b + (x.n : Int) < 18446744073709551616; omega⟩
      have d2 : decide (x.b + (x.n : Int) ≤ S) = false := decide_eq_false (by omega)
      have d3 : decide (0 ≤ i) = true := decide_eq_true i0
      have d4 : decide (i < (v : Int)) = true := decide_eq_true iv
      have d5 : decide (0 + Int.toNat i < a.length) = true := decide_eq_true (by omega)
      have l0 : decide ((List.length es + 1) * 8 ≤ 35184372088832) = true := decide_eq_true (by omega)
      have m0 : decide (0 + List.length es ≤ List.length es) = true := decide_eq_true (by omega)
      simp only [TreeQ.holds, decide_true, Bool.and_self, Bool.and_true, Bool.true_and, true_and, qSame_self, cap_self, o1, hj, c1, c2, hS', hT, wS, w1, w2, d1, d2, d3, d4, d5, l0, m0, Bool.not_true, Bool.false_eq_true, Bool.true_eq_false, false_implies, true_implies, forall_const, decide_eq_true_eq, decide_eq_false_iff_not, and_true]
      have hq0 := H.q0
      have hqk := H.qk
      refine ⟨fun _ => ⟨fun g1 => ⟨fun g2 => ?_, fun g2 => ?_⟩, fun g1 => ?_⟩, fun _ => ?_⟩
      · subst g1
        rw [wrk (t := k - 1) (by omega) (by omega)]
        exact fin4 p x (es ++ [0]) ([] ++ [1]) ([] ++ [k - 1]) ([] ++ [0]) 1 1 (mk4 xk hx (((U.el (e := 0) (by omega) (by omega) s2).take s2 g2).ans (by simp only [List.length_nil] at *; omega))) (by simp only [Sv.bs, len_app, List.nil_append, ← elB_app]; rfl)
      · rw [wrk (t := k - 0) (by omega) (by omega)]
        exact fin3 p x (es ++ [S]) ([] ++ [0]) ([] ++ [k - 0]) (mk3 xk hx ((U.el (e := S) (by omega) (by omega) s2).ans (by simp only [List.length_nil] at *; omega))) (by simp only [Sv.bs, len_app, List.nil_append, ← elB_app]; rfl)
      · rw [wrk (t := k - 0) (by omega) (by omega)]
        exact fin3 p x (es ++ [S]) ([] ++ [0]) ([] ++ [k - 0]) (mk3 xk hx ((U.el (e := S) (by omega) (by omega) s2).ans (by simp only [List.length_nil] at *; omega))) (by simp only [Sv.bs, len_app, List.nil_append, ← elB_app]; rfl)
      · exact fin2 p x (es ++ [S]) (mk2 xk hx (U.el (e := S) (by omega) (by omega) s2)) (by simp only [Sv.bs, len_app, List.nil_append, ← elB_app]; rfl)
  | s3 x es an rs =>
    obtain ⟨xk, hx, H⟩ := un3 hs
    have U := H.up i2
    have hk := newK H.hk
    have h1 := H.ai
    have h2 := H.ei
    have o1 : Sx.ok (.q x) = true := hx
    have hj : i64 j = true := i64_iff.2 ⟨by omega, by omega⟩
    refine takes_of_treeQ hE (W_ok hS noL_ok) noT_ok (f := 4) (.inr (by kernel_rfl)) (hp_below _) (o1_s3 a b v k p i j x es an rs) ?_
    by_cases hn : x.n = 0
    · have c1 : nIs (Sx.n (.q x)) = false := decide_eq_false (fun hh => hh hn)
      have c2 : decide (0 < ((Sx.n (.q x) : Nat) : Int)) = false := decide_eq_false (by show ¬ (0 < (x.n : Int)); omega)
      simp only [TreeQ.holds, decide_true, Bool.and_self, Bool.and_true, Bool.true_and, true_and, qSame_self, cap_self, o1, hj, c1, c2, Bool.not_true, Bool.false_eq_true, false_implies, true_implies, forall_const]
      exact fin3 p x es an rs (mk3 xk hx (U)) rfl
    · have c1 : nIs (Sx.n (.q x)) = true := decide_eq_true hn
      have c2 : decide (0 < ((Sx.n (.q x) : Nat) : Int)) = true := decide_eq_true (by show 0 < (x.n : Int); omega)
      obtain ⟨n1, n2, n3⟩ := next_facts H (by omega) j
      have hp2 := H.pi
      have hb0 := H.b0
      have hbn := H.bn
      obtain ⟨S, hS'⟩ : ∃ S, nSeq (Sx.n (.q x)) (Sx.b (.q x)) (Sx.m (.q x)) j = S := ⟨_, rfl⟩
      have hT : nTime (Sx.l (.q x)) (Sx.b (.q x)) (Sx.m (.q x)) j = S := n1.trans hS'
      have s1 : x.b ≤ S := by rw [← hS']; exact n2
      have s2 : S < p := by rw [← hS']; exact n3
      have wS : wr .i64 S = S := wr_in ⟨by omega, by omega⟩
      have d1 : decide (S < Sx.b (.q x)) = false := decide_eq_false (by show ¬ S < x.b; omega)
      have w1 : wr .u64 ((Sx.n (.q x) : Nat) : Int) = (x.n : Int) := wr_u64 ⟨by show 0 ≤ (x.n : Int); omega, by show (x.n : Int) < 18446744073709551616; omega⟩
      have w2 : wr .u64 (Sx.b (.q x) + (x.n : Int)) = x.b + x.n := wr_u64 ⟨by show 0 ≤ x.b + (x.n : Int); omega, by show x.b + (x.n : Int) < 18446744073709551616; omega⟩
      have d2 : decide (x.b + (x.n : Int) ≤ S) = false := decide_eq_false (by omega)
      have d3 : decide (0 ≤ i) = true := decide_eq_true i0
      have d4 : decide (i < (v : Int)) = true := decide_eq_true iv
      have d5 : decide (0 + Int.toNat i < a.length) = true := decide_eq_true (by omega)
      have l0 : decide ((List.length es + 1) * 8 ≤ 35184372088832) = true := decide_eq_true (by omega)
      have m0 : decide (0 + List.length es ≤ List.length es) = true := decide_eq_true (by omega)
      have l1 : decide ((List.length an + 1) * 16 ≤ 35184372088832) = true := decide_eq_true (by omega)
      have m1 : decide (0 + List.length an ≤ List.length an) = true := decide_eq_true (by omega)
      simp only [TreeQ.holds, decide_true, Bool.and_self, Bool.and_true, Bool.true_and, true_and, qSame_self, cap_self, o1, hj, c1, c2, hS', hT, wS, w1, w2, d1, d2, d3, d4, d5, l0, m0, l1, m1, Bool.not_true, Bool.false_eq_true, Bool.true_eq_false, false_implies, true_implies, forall_const, decide_eq_true_eq, decide_eq_false_iff_not, and_true]
      have hq0 := H.q0
      have hqk := H.qk
      refine ⟨fun _ => ⟨fun g1 => ⟨fun g2 => ?_, fun g2 => ?_⟩, fun g1 => ?_⟩, fun _ => ?_⟩
      · subst g1
        rw [wrk (t := k - 1) (by omega) (by omega)]
        exact fin4 p x (es ++ [0]) (an ++ [1]) (rs ++ [k - 1]) ([] ++ [0]) 1 1 (mk4 xk hx (((U.el (e := 0) (by omega) (by omega) s2).take s2 g2).ans (by omega))) (by simp only [Sv.bs, len_app, List.nil_append, ← elB_app, ← anB_app H.ar]; rfl)
      · rw [wrk (t := k - 0) (by omega) (by omega)]
        exact fin3 p x (es ++ [S]) (an ++ [0]) (rs ++ [k - 0]) (mk3 xk hx ((U.el (e := S) (by omega) (by omega) s2).ans (by omega))) (by simp only [Sv.bs, len_app, List.nil_append, ← elB_app, ← anB_app H.ar]; rfl)
      · rw [wrk (t := k - 0) (by omega) (by omega)]
        exact fin3 p x (es ++ [S]) (an ++ [0]) (rs ++ [k - 0]) (mk3 xk hx ((U.el (e := S) (by omega) (by omega) s2).ans (by omega))) (by simp only [Sv.bs, len_app, List.nil_append, ← elB_app, ← anB_app H.ar]; rfl)
      · exact fin3 p x (es ++ [S]) an rs (mk3 xk hx (U.el (e := S) (by omega) (by omega) s2)) (by simp only [Sv.bs, len_app, List.nil_append, ← elB_app, ← anB_app H.ar]; rfl)
  | s4 x es an rs tk f q =>
    obtain ⟨xk, hx, H⟩ := un4 hs
    have U := H.up i2
    have hk := newK H.hk
    have h1 := H.ai
    have h2 := H.ei
    have o1 : Sx.ok (.q x) = true := hx
    have hj : i64 j = true := i64_iff.2 ⟨by omega, by omega⟩
    refine takes_of_treeQ hE (W_ok hS noL_ok) noT_ok (f := 4) (.inr (by kernel_rfl)) (hp_below _) (o1_s4 a b v k p i j x es an rs tk f q) ?_
    by_cases hn : x.n = 0
    · have c1 : nIs (Sx.n (.q x)) = false := decide_eq_false (fun hh => hh hn)
      have c2 : decide (0 < ((Sx.n (.q x) : Nat) : Int)) = false := decide_eq_false (by show ¬ (0 < (x.n : Int)); omega)
      simp only [TreeQ.holds, decide_true, Bool.and_self, Bool.and_true, Bool.true_and, true_and, qSame_self, cap_self, o1, hj, c1, c2, Bool.not_true, Bool.false_eq_true, false_implies, true_implies, forall_const]
      exact fin4 p x es an rs tk f q (mk4 xk hx (U)) rfl
    · have c1 : nIs (Sx.n (.q x)) = true := decide_eq_true hn
      have c2 : decide (0 < ((Sx.n (.q x) : Nat) : Int)) = true := decide_eq_true (by show 0 < (x.n : Int); omega)
      obtain ⟨n1, n2, n3⟩ := next_facts H (by omega) j
      have hp2 := H.pi
      have hb0 := H.b0
      have hbn := H.bn
      obtain ⟨S, hS'⟩ : ∃ S, nSeq (Sx.n (.q x)) (Sx.b (.q x)) (Sx.m (.q x)) j = S := ⟨_, rfl⟩
      have hT : nTime (Sx.l (.q x)) (Sx.b (.q x)) (Sx.m (.q x)) j = S := n1.trans hS'
      have s1 : x.b ≤ S := by rw [← hS']; exact n2
      have s2 : S < p := by rw [← hS']; exact n3
      have wS : wr .i64 S = S := wr_in ⟨by omega, by omega⟩
      have d1 : decide (S < Sx.b (.q x)) = false := decide_eq_false (by show ¬ S < x.b; omega)
      have w1 : wr .u64 ((Sx.n (.q x) : Nat) : Int) = (x.n : Int) := wr_u64 ⟨by show 0 ≤ (x.n : Int); omega, by show (x.n : Int) < 18446744073709551616; omega⟩
      have w2 : wr .u64 (Sx.b (.q x) + (x.n : Int)) = x.b + x.n := wr_u64 ⟨by show 0 ≤ x.b + (x.n : Int); omega, by show x.b + (x.n : Int) < 18446744073709551616; omega⟩
      have d2 : decide (x.b + (x.n : Int) ≤ S) = false := decide_eq_false (by omega)
      have d3 : decide (0 ≤ i) = true := decide_eq_true i0
      have d4 : decide (i < (v : Int)) = true := decide_eq_true iv
      have d5 : decide (0 + Int.toNat i < a.length) = true := decide_eq_true (by omega)
      have htl : tk.length = f.toNat := by rw [H.htk, rng_len]
      have hfp := H.fp
      have hbf := H.bf
      have l0 : decide ((List.length es + 1) * 8 ≤ 35184372088832) = true := decide_eq_true (by omega)
      have m0 : decide (0 + List.length es ≤ List.length es) = true := decide_eq_true (by omega)
      have l1 : decide ((List.length tk + 1) * 8 ≤ 35184372088832) = true := decide_eq_true (by omega)
      have m1 : decide (0 + List.length tk ≤ List.length tk) = true := decide_eq_true (by omega)
      have l2 : decide ((List.length an + 1) * 16 ≤ 35184372088832) = true := decide_eq_true (by omega)
      have m2 : decide (0 + List.length an ≤ List.length an) = true := decide_eq_true (by omega)
      simp only [TreeQ.holds, decide_true, Bool.and_self, Bool.and_true, Bool.true_and, true_and, qSame_self, cap_self, o1, hj, c1, c2, hS', hT, wS, w1, w2, d1, d2, d3, d4, d5, l0, m0, l1, m1, l2, m2, Bool.not_true, Bool.false_eq_true, Bool.true_eq_false, false_implies, true_implies, forall_const, decide_eq_true_eq, decide_eq_false_iff_not, and_true]
      have hq0 := H.q0
      have hqk := H.qk
      refine ⟨fun _ => ⟨fun g1 => ⟨fun g2 => ?_, fun g2 => ?_⟩, fun g1 => ?_⟩, fun _ => ?_⟩
      · subst g1
        rw [show wr .u64 (S + 1) = S + 1 from wr_u64 (by omega), show wr .i64 (q + 1) = q + 1 from wr_in ⟨by omega, by omega⟩, wrk (t := k - (q + 1)) (by omega) (by omega)]
        exact fin4 p x (es ++ [S]) (an ++ [S + 1]) (rs ++ [k - (q + 1)]) (tk ++ [S]) (S + 1) (q + 1) (mk4 xk hx (((U.el (e := S) (by omega) (by omega) s2).take s2 g2).ans (by omega))) (by simp only [Sv.bs, len_app, List.nil_append, ← elB_app, ← tkB_app, ← anB_app H.ar]; rfl)
      · rw [wrk (t := k - q) (by omega) (by omega)]
        exact fin4 p x (es ++ [S]) (an ++ [f]) (rs ++ [k - q]) tk f q (mk4 xk hx ((U.el (e := S) (by omega) (by omega) s2).ans (by omega))) (by simp only [Sv.bs, len_app, List.nil_append, ← elB_app, ← tkB_app, ← anB_app H.ar]; rfl)
      · rw [wrk (t := k - q) (by omega) (by omega)]
        exact fin4 p x (es ++ [S]) (an ++ [f]) (rs ++ [k - q]) tk f q (mk4 xk hx ((U.el (e := S) (by omega) (by omega) s2).ans (by omega))) (by simp only [Sv.bs, len_app, List.nil_append, ← elB_app, ← tkB_app, ← anB_app H.ar]; rfl)
      · exact fin4 p x (es ++ [S]) an rs tk f q (mk4 xk hx (U.el (e := S) (by omega) (by omega) s2)) (by simp only [Sv.bs, len_app, List.nil_append, ← elB_app, ← tkB_app, ← anB_app H.ar]; rfl)

theorem o3_takes (y : Os) (h : okG a y = true) : Takes Try.prog (tabC a b) ra base 0 (codeOf 4 pO3) (mkT 314 (y.g.ins y.s.el ++ jT y)) (hp 0 y.s.bs) fun z => PostL 314 y z altsO := by
  have hE := tabC_plain a b
  have hS := S2_ok (E := tabC a b) (ra := ra) (base := base) hE
  obtain ⟨⟨v, k, p, i⟩, s, j, e⟩ := y
  obtain ⟨hs, i0, i2, iv, va, j0, j2⟩ := okG_un h
  simp only at hs i0 i2 iv va j0 j2
  cases s with
  | s0 k' m =>
    obtain ⟨rfl, H⟩ := un0 hs
    have U := H.up i2
    have hk := newK H.hk
    have o1 : Sx.ok (.z k' 0 m) = true := okN_iff.2 ⟨by decide, by omega, by omega, by decide, by decide, H.m0, by have := H.mm; omega⟩
    refine takes_of_treeQ hE (W_ok hS noL_ok) noT_ok (f := 4) (.inr (by kernel_rfl)) (hp_below _) (o3_s0 a b v k' p i j k' m) ?_
    exact fin0 p _ m (mk0 U) rfl
  | s1 x =>
    obtain ⟨xk, hx, H⟩ := un1 hs
    have U := H.up i2
    have hk := newK H.hk
    have h1 := H.ai
    have h2 := H.ei
    have o1 : Sx.ok (.q x) = true := hx
    refine takes_of_treeQ hE (W_ok hS noL_ok) noT_ok (f := 4) (.inr (by kernel_rfl)) (hp_below _) (o3_s1 a b v k p i j x) ?_
    exact fin1 p x (mk1 xk hx (U)) rfl
  | s2 x es =>
    obtain ⟨xk, hx, H⟩ := un2 hs
    have U := H.up i2
    have hk := newK H.hk
    have h1 := H.ai
    have h2 := H.ei
    have o1 : Sx.ok (.q x) = true := hx
    refine takes_of_treeQ hE (W_ok hS noL_ok) noT_ok (f := 4) (.inr (by kernel_rfl)) (hp_below _) (o3_s2 a b v k p i j x es) ?_
    have hp2 := H.pi
    have hb0 := H.b0
    have hbn := H.bn
    have hq0 := H.q0
    have hqk := H.qk
    simp only [TreeQ.holds, decide_eq_true_eq, decide_eq_false_iff_not, Bool.and_eq_true]
    refine ⟨fun z0 => ?_, fun _ => fin2 p x es (mk2 xk hx (U)) rfl⟩
    have t1 := Int.tmod_nonneg (a := j) (es.length : Int) j0
    have t2 := Int.tmod_lt_of_pos j (show (0 : Int) < (es.length : Int) from z0)
    have t3 : 0 + Int.toNat (Int.tmod j (es.length : Int)) < es.length := by omega
    obtain ⟨S, hS'⟩ : ∃ S, es.getD (0 + Int.toNat (Int.tmod j (es.length : Int))) 0 = S := ⟨_, rfl⟩
    have hm : 0 ≤ S ∧ S < p := by rw [← hS', getD_at t3]; exact H.hes _ (List.getElem_mem _)
    have wS : wr .i64 S = S := wr_in ⟨by omega, by omega⟩
    rw [hS', wS]
    refine ⟨by omega, ⟨t1, t2⟩, t3, fun g1 => ⟨fun g2 => ?_, fun g2 => ?_⟩, fun g1 => ?_⟩
    · subst g1
      rw [wrk (t := k - 1) (by omega) (by omega)]
      refine ⟨by omega, ?_⟩
      exact fin4 p x es ([] ++ [1]) ([] ++ [k - 1]) ([] ++ [0]) 1 1 (mk4 xk hx ((U.take hm.2 g2).ans (by simp only [List.length_nil] at *; omega))) (by simp only [Sv.bs, List.nil_append]; rfl)
    · rw [wrk (t := k - 0) (by omega) (by omega)]
      exact fin3 p x es ([] ++ [0]) ([] ++ [k - 0]) (mk3 xk hx (U.ans (by simp only [List.length_nil] at *; omega))) (by simp only [Sv.bs, List.nil_append]; rfl)
    · rw [wrk (t := k - 0) (by omega) (by omega)]
      exact fin3 p x es ([] ++ [0]) ([] ++ [k - 0]) (mk3 xk hx (U.ans (by simp only [List.length_nil] at *; omega))) (by simp only [Sv.bs, List.nil_append]; rfl)
  | s3 x es an rs =>
    obtain ⟨xk, hx, H⟩ := un3 hs
    have U := H.up i2
    have hk := newK H.hk
    have h1 := H.ai
    have h2 := H.ei
    have o1 : Sx.ok (.q x) = true := hx
    refine takes_of_treeQ hE (W_ok hS noL_ok) noT_ok (f := 4) (.inr (by kernel_rfl)) (hp_below _) (o3_s3 a b v k p i j x es an rs) ?_
    have hp2 := H.pi
    have hb0 := H.b0
    have hbn := H.bn
    have hq0 := H.q0
    have hqk := H.qk
    simp only [TreeQ.holds, decide_eq_true_eq, decide_eq_false_iff_not, Bool.and_eq_true]
    refine ⟨fun z0 => ?_, fun _ => fin3 p x es an rs (mk3 xk hx (U)) rfl⟩
    have t1 := Int.tmod_nonneg (a := j) (es.length : Int) j0
    have t2 := Int.tmod_lt_of_pos j (show (0 : Int) < (es.length : Int) from z0)
    have t3 : 0 + Int.toNat (Int.tmod j (es.length : Int)) < es.length := by omega
    obtain ⟨S, hS'⟩ : ∃ S, es.getD (0 + Int.toNat (Int.tmod j (es.length : Int))) 0 = S := ⟨_, rfl⟩
    have hm : 0 ≤ S ∧ S < p := by rw [← hS', getD_at t3]; exact H.hes _ (List.getElem_mem _)
    have wS : wr .i64 S = S := wr_in ⟨by omega, by omega⟩
    rw [hS', wS]
    refine ⟨by omega, ⟨t1, t2⟩, t3, fun g1 => ⟨fun g2 => ?_, fun g2 => ?_⟩, fun g1 => ?_⟩
    · subst g1
      rw [wrk (t := k - 1) (by omega) (by omega)]
      refine ⟨by omega, by omega, by omega, ?_⟩
      exact fin4 p x es (an ++ [1]) (rs ++ [k - 1]) ([] ++ [0]) 1 1 (mk4 xk hx ((U.take hm.2 g2).ans (by omega))) (by simp only [Sv.bs, len_app, List.nil_append, ← anB_app H.ar]; rfl)
    · rw [wrk (t := k - 0) (by omega) (by omega)]
      refine ⟨by omega, by omega, ?_⟩
      exact fin3 p x es (an ++ [0]) (rs ++ [k - 0]) (mk3 xk hx (U.ans (by omega))) (by simp only [Sv.bs, len_app, List.nil_append, ← anB_app H.ar]; rfl)
    · rw [wrk (t := k - 0) (by omega) (by omega)]
      refine ⟨by omega, by omega, ?_⟩
      exact fin3 p x es (an ++ [0]) (rs ++ [k - 0]) (mk3 xk hx (U.ans (by omega))) (by simp only [Sv.bs, len_app, List.nil_append, ← anB_app H.ar]; rfl)
  | s4 x es an rs tk f q =>
    obtain ⟨xk, hx, H⟩ := un4 hs
    have U := H.up i2
    have hk := newK H.hk
    have h1 := H.ai
    have h2 := H.ei
    have o1 : Sx.ok (.q x) = true := hx
    refine takes_of_treeQ hE (W_ok hS noL_ok) noT_ok (f := 4) (.inr (by kernel_rfl)) (hp_below _) (o3_s4 a b v k p i j x es an rs tk f q) ?_
    have hp2 := H.pi
    have hb0 := H.b0
    have hbn := H.bn
    have hq0 := H.q0
    have hqk := H.qk
    have htl : tk.length = f.toNat := by rw [H.htk, rng_len]
    have hfp := H.fp
    have hbf := H.bf
    simp only [TreeQ.holds, decide_eq_true_eq, decide_eq_false_iff_not, Bool.and_eq_true]
    refine ⟨fun z0 => ?_, fun _ => fin4 p x es an rs tk f q (mk4 xk hx (U)) rfl⟩
    have t1 := Int.tmod_nonneg (a := j) (es.length : Int) j0
    have t2 := Int.tmod_lt_of_pos j (show (0 : Int) < (es.length : Int) from z0)
    have t3 : 0 + Int.toNat (Int.tmod j (es.length : Int)) < es.length := by omega
    obtain ⟨S, hS'⟩ : ∃ S, es.getD (0 + Int.toNat (Int.tmod j (es.length : Int))) 0 = S := ⟨_, rfl⟩
    have hm : 0 ≤ S ∧ S < p := by rw [← hS', getD_at t3]; exact H.hes _ (List.getElem_mem _)
    have wS : wr .i64 S = S := wr_in ⟨by omega, by omega⟩
    rw [hS', wS]
    refine ⟨by omega, ⟨t1, t2⟩, t3, fun g1 => ⟨fun g2 => ?_, fun g2 => ?_⟩, fun g1 => ?_⟩
    · subst g1
      rw [show wr .u64 (S + 1) = S + 1 from wr_u64 (by omega), show wr .i64 (q + 1) = q + 1 from wr_in ⟨by omega, by omega⟩, wrk (t := k - (q + 1)) (by omega) (by omega)]
      refine ⟨by omega, by omega, by omega, by omega, by omega, ?_⟩
      exact fin4 p x es (an ++ [S + 1]) (rs ++ [k - (q + 1)]) (tk ++ [S]) (S + 1) (q + 1) (mk4 xk hx ((U.take hm.2 g2).ans (by omega))) (by simp only [Sv.bs, len_app, List.nil_append, ← tkB_app, ← anB_app H.ar]; rfl)
    · rw [wrk (t := k - q) (by omega) (by omega)]
      refine ⟨by omega, by omega, ?_⟩
      exact fin4 p x es (an ++ [f]) (rs ++ [k - q]) tk f q (mk4 xk hx (U.ans (by omega))) (by simp only [Sv.bs, len_app, List.nil_append, ← tkB_app, ← anB_app H.ar]; rfl)
    · rw [wrk (t := k - q) (by omega) (by omega)]
      refine ⟨by omega, by omega, ?_⟩
      exact fin4 p x es (an ++ [f]) (rs ++ [k - q]) tk f q (mk4 xk hx (U.ans (by omega))) (by simp only [Sv.bs, len_app, List.nil_append, ← tkB_app, ← anB_app H.ar]; rfl)

theorem o5_takes (y : Os) (h : okG a y = true) : Takes Try.prog (tabC a b) ra base 0 (codeOf 4 pO5) (mkT 314 (y.g.ins y.s.el ++ jT y)) (hp 0 y.s.bs) fun z => PostL 314 y z altsO := by
  have hE := tabC_plain a b
  have hS := S2_ok (E := tabC a b) (ra := ra) (base := base) hE
  obtain ⟨⟨v, k, p, i⟩, s, j, e⟩ := y
  obtain ⟨hs, i0, i2, iv, va, j0, j2⟩ := okG_un h
  simp only at hs i0 i2 iv va j0 j2
  cases s with
  | s0 k' m =>
    obtain ⟨rfl, H⟩ := un0 hs
    have U := H.up i2
    have hk := newK H.hk
    have o1 : Sx.ok (.z k' 0 m) = true := okN_iff.2 ⟨by decide, by omega, by omega, by decide, by decide, H.m0, by have := H.mm; omega⟩
    refine takes_of_treeQ hE (W_ok hS noL_ok) noT_ok (f := 4) (.inr (by kernel_rfl)) (hp_below _) (o5_s0 a b v k' p i j k' m) ?_
    exact fin0 p _ m (mk0 U) rfl
  | s1 x =>
    obtain ⟨xk, hx, H⟩ := un1 hs
    have U := H.up i2
    have hk := newK H.hk
    have h1 := H.ai
    have h2 := H.ei
    have o1 : Sx.ok (.q x) = true := hx
    refine takes_of_treeQ hE (W_ok hS noL_ok) noT_ok (f := 4) (.inr (by kernel_rfl)) (hp_below _) (o5_s1 a b v k p i j x) ?_
    exact fin1 p x (mk1 xk hx (U)) rfl
  | s2 x es =>
    obtain ⟨xk, hx, H⟩ := un2 hs
    have U := H.up i2
    have hk := newK H.hk
    have h1 := H.ai
    have h2 := H.ei
    have o1 : Sx.ok (.q x) = true := hx
    refine takes_of_treeQ hE (W_ok hS noL_ok) noT_ok (f := 4) (.inr (by kernel_rfl)) (hp_below _) (o5_s2 a b v k p i j x es) ?_
    exact fin2 p x es (mk2 xk hx (U)) rfl
  | s3 x es an rs =>
    obtain ⟨xk, hx, H⟩ := un3 hs
    have U := H.up i2
    have hk := newK H.hk
    have h1 := H.ai
    have h2 := H.ei
    have o1 : Sx.ok (.q x) = true := hx
    refine takes_of_treeQ hE (W_ok hS noL_ok) noT_ok (f := 4) (.inr (by kernel_rfl)) (hp_below _) (o5_s3 a b v k p i j x es an rs) ?_
    have har := H.ar
    have hp2 := H.pi
    have hfp := H.fp
    have key : ∀ t : Nat, t < an.length → u64 (an.getD t 0) = true ∧ wr .i64 (rs.getD t 0) = rs.getD t 0 ∧ i64 (rs.getD t 0) = true ∧ ackE (Sx.n (.q x)) (Sx.k (.q x)) (Sx.b (.q x)) (an.getD t 0) (rs.getD t 0) = 0 ∧ okSd (x.ack (an.getD t 0) (rs.getD t 0)) = true ∧ (x.ack (an.getD t 0) (rs.getD t 0)).k = k ∧
        Hold (i + 1) p k (x.ack (an.getD t 0) (rs.getD t 0)).b (x.ack (an.getD t 0) (rs.getD t 0)).m (x.ack (an.getD t 0) (rs.getD t 0)).n (x.ack (an.getD t 0) (rs.getD t 0)).l es an rs [] 0 0 := by
      intro t ht
      have a1 : 0 ≤ an.getD t 0 ∧ an.getD t 0 ≤ 0 := by rw [getD_at ht]; exact H.han _ (List.getElem_mem _)
      have r1 : 0 ≤ rs.getD t 0 ∧ rs.getD t 0 ≤ k := by rw [getD_at (by omega)]; exact H.hrs _ (List.getElem_mem _)
      obtain ⟨b1, b2, b3, b4, _⟩ := Hold.ack hx xk U a1 r1
      exact ⟨u64_iff.2 ⟨by omega, by omega⟩, wr_in ⟨by omega, by omega⟩, i64_iff.2 ⟨by omega, by omega⟩, b1, b2, b3, b4⟩
    have w0 : wr .i64 ((an.length : Int) - 1) = (an.length : Int) - 1 := wr_in ⟨by omega, by omega⟩
    simp only [TreeQ.holds, decide_eq_true_eq, decide_eq_false_iff_not, Bool.and_eq_true, w0]
    refine ⟨fun z0 => ?_, fun _ => fin3 p x es an rs (mk3 xk hx (U)) rfl⟩
    have t1 := Int.tmod_nonneg (a := j) (an.length : Int) j0
    have t2 := Int.tmod_lt_of_pos j (show (0 : Int) < (an.length : Int) from z0)
    have t3 : 0 + Int.toNat (Int.tmod j (an.length : Int)) < an.length := by omega
    have t4 : 0 + Int.toNat ((an.length : Int) - 1) < an.length := by omega
    obtain ⟨k1, k2, k3, k4, k5, k6, k7⟩ := key _ t3
    obtain ⟨l1, l2, l3, l4, l5, l6, l7⟩ := key _ t4
    simp only [k1, k2, k3, k4, l1, l2, l3, l4, o1, decide_true, Bool.and_self, Bool.and_true, Bool.true_and, true_and, qSame_self, cap_self, Bool.not_true, Bool.false_eq_true, false_implies, forall_const, true_implies]
    refine ⟨⟨by omega, by omega⟩, t4, ⟨i0, iv⟩, by omega, fun _ => ⟨by omega, ⟨t1, t2⟩, t3, by omega, by omega, ?_⟩, fun _ => ⟨by omega, by omega, ?_⟩⟩
    · exact fin3 p (x.ack (an.getD (0 + Int.toNat (Int.tmod j (an.length : Int))) 0) (rs.getD (0 + Int.toNat (Int.tmod j (an.length : Int))) 0)) es an rs (mk3 k6 k5 k7) rfl
    · exact fin3 p (x.ack (an.getD (0 + Int.toNat ((an.length : Int) - 1)) 0) (rs.getD (0 + Int.toNat ((an.length : Int) - 1)) 0)) es an rs (mk3 l6 l5 l7) rfl
  | s4 x es an rs tk f q =>
    obtain ⟨xk, hx, H⟩ := un4 hs
    have U := H.up i2
    have hk := newK H.hk
    have h1 := H.ai
    have h2 := H.ei
    have o1 : Sx.ok (.q x) = true := hx
    refine takes_of_treeQ hE (W_ok hS noL_ok) noT_ok (f := 4) (.inr (by kernel_rfl)) (hp_below _) (o5_s4 a b v k p i j x es an rs tk f q) ?_
    have har := H.ar
    have hp2 := H.pi
    have hfp := H.fp
    have key : ∀ t : Nat, t < an.length → u64 (an.getD t 0) = true ∧ wr .i64 (rs.getD t 0) = rs.getD t 0 ∧ i64 (rs.getD t 0) = true ∧ ackE (Sx.n (.q x)) (Sx.k (.q x)) (Sx.b (.q x)) (an.getD t 0) (rs.getD t 0) = 0 ∧ okSd (x.ack (an.getD t 0) (rs.getD t 0)) = true ∧ (x.ack (an.getD t 0) (rs.getD t 0)).k = k ∧
        Hold (i + 1) p k (x.ack (an.getD t 0) (rs.getD t 0)).b (x.ack (an.getD t 0) (rs.getD t 0)).m (x.ack (an.getD t 0) (rs.getD t 0)).n (x.ack (an.getD t 0) (rs.getD t 0)).l es an rs tk f q := by
      intro t ht
      have a1 : 0 ≤ an.getD t 0 ∧ an.getD t 0 ≤ f := by rw [getD_at ht]; exact H.han _ (List.getElem_mem _)
      have r1 : 0 ≤ rs.getD t 0 ∧ rs.getD t 0 ≤ k := by rw [getD_at (by omega)]; exact H.hrs _ (List.getElem_mem _)
      obtain ⟨b1, b2, b3, b4, _⟩ := Hold.ack hx xk U a1 r1
      exact ⟨u64_iff.2 ⟨by omega, by omega⟩, wr_in ⟨by omega, by omega⟩, i64_iff.2 ⟨by omega, by omega⟩, b1, b2, b3, b4⟩
    have w0 : wr .i64 ((an.length : Int) - 1) = (an.length : Int) - 1 := wr_in ⟨by omega, by omega⟩
    simp only [TreeQ.holds, decide_eq_true_eq, decide_eq_false_iff_not, Bool.and_eq_true, w0]
    refine ⟨fun z0 => ?_, fun _ => fin4 p x es an rs tk f q (mk4 xk hx (U)) rfl⟩
    have t1 := Int.tmod_nonneg (a := j) (an.length : Int) j0
    have t2 := Int.tmod_lt_of_pos j (show (0 : Int) < (an.length : Int) from z0)
    have t3 : 0 + Int.toNat (Int.tmod j (an.length : Int)) < an.length := by omega
    have t4 : 0 + Int.toNat ((an.length : Int) - 1) < an.length := by omega
    obtain ⟨k1, k2, k3, k4, k5, k6, k7⟩ := key _ t3
    obtain ⟨l1, l2, l3, l4, l5, l6, l7⟩ := key _ t4
    simp only [k1, k2, k3, k4, l1, l2, l3, l4, o1, decide_true, Bool.and_self, Bool.and_true, Bool.true_and, true_and, qSame_self, cap_self, Bool.not_true, Bool.false_eq_true, false_implies, forall_const, true_implies]
    refine ⟨⟨by omega, by omega⟩, t4, ⟨i0, iv⟩, by omega, fun _ => ⟨by omega, ⟨t1, t2⟩, t3, by omega, by omega, ?_⟩, fun _ => ⟨by omega, by omega, ?_⟩⟩
    · exact fin4 p (x.ack (an.getD (0 + Int.toNat (Int.tmod j (an.length : Int))) 0) (rs.getD (0 + Int.toNat (Int.tmod j (an.length : Int))) 0)) es an rs tk f q (mk4 k6 k5 k7) rfl
    · exact fin4 p (x.ack (an.getD (0 + Int.toNat ((an.length : Int) - 1)) 0) (rs.getD (0 + Int.toNat ((an.length : Int) - 1)) 0)) es an rs tk f q (mk4 l6 l5 l7) rfl

theorem o0_takes (y : Os) (h : okG a y = true) : Takes Try.prog (tabC a b) ra base 0 (codeOf 4 pO0) (mkT 314 (y.g.ins y.s.el ++ noT' y)) (hp 0 y.s.bs) fun z => PostL 314 y z altsO := by
  have hE := tabC_plain a b
  have hS := S2_ok (E := tabC a b) (ra := ra) (base := base) hE
  obtain ⟨⟨v, k, p, i⟩, s, j, e⟩ := y
  obtain ⟨hs, i0, i2, iv, va, j0, j2⟩ := okG_un h
  simp only at hs i0 i2 iv va j0 j2
  cases s with
  | s0 k' m =>
    obtain ⟨rfl, H⟩ := un0 hs
    have U := H.up i2
    have hk := newK H.hk
    have o1 : Sx.ok (.z k' 0 m) = true := okN_iff.2 ⟨by decide, by omega, by omega, by decide, by decide, H.m0, by have := H.mm; omega⟩
    have hn := H.bn
    have hp2 := H.pi
    refine takes_of_treeQ hE (W_ok hS noL_ok) noT_ok (f := 4) (.inr (by kernel_rfl)) (hp_below _) (o0_s0 a b v k' p i k' m) ?_
    have e1 : ¬ (Sx.k (.z k' 0 m) - ((Sx.n (.z k' 0 m) : Nat) : Int) = 0) := by show ¬ (k' - ((0 : Nat) : Int) = 0); omega
    have P := H.push i2 (by omega)
    have hp0 : p = 0 := by omega
    subst hp0
    have k1 : okSd ⟨[0], 0, 1, none, k', 0, m⟩ = true := okSd_iff.2 ⟨⟨by show 1 ≤ 1000; decide, by show 0 ≤ k'; omega, by show k' ≤ 1000; omega, Int.le_refl _, by show (0 : Int) ≤ 1000000; decide, H.m0, by show m ≤ 1000000000; have := H.mm; omega⟩, Nat.le_refl _, .inl rfl⟩
    have o2 : Sx.ok (.q ⟨List.take 1 (List.drop 0 [0]), 0, 1, none, k', 0, m⟩) = true := k1
    have w1 : wr .i64 (0 + 1) = 1 := rfl
    simp only [TreeQ.holds, decide_true, Bool.and_self, Bool.and_true, Bool.true_and, true_and, o1, o2, e1, w1, decide_eq_true_eq, decide_eq_false_iff_not, false_implies, not_false_eq_true, true_implies, forall_const]
    exact ⟨fun _ => fin1 1 ⟨[0], 0, 1, none, k', 0, m⟩ (mk1 rfl k1 P) rfl, fun _ => fin1 1 ⟨[0], 0, 1, none, k', 0, m⟩ (mk1 rfl k1 P) rfl⟩
  | s1 x =>
    obtain ⟨xk, hx, H⟩ := un1 hs
    have U := H.up i2
    have hk := newK H.hk
    have h1 := H.ai
    have h2 := H.ei
    have o1 : Sx.ok (.q x) = true := hx
    obtain ⟨ts, o, n, c, k', y, m⟩ := x
    simp only at xk
    subst xk
    obtain ⟨⟨a1, a2, a3, a4, a5, a6, a7⟩, a8, a9⟩ := okSd_iff.1 hx
    simp only at a1 a2 a3 a4 a5 a6 a7 a8 a9
    have hn := H.nk
    have hbn := H.bn
    have hp2 := H.pi
    simp only at hn hbn
    have w0 : wr .i64 y = y := wr_in ⟨by omega, by omega⟩
    have w1 : wr .i64 (p - y) = p - y := wr_in ⟨by omega, by omega⟩
    have w2 : wr .i64 (p + 1) = p + 1 := wr_in ⟨by omega, by omega⟩
    have hg := qGrown_true ts o n p a8
    have f1 : Sx.k (.q ⟨ts, o, n, c, k', y, m⟩) = k' := rfl
    have f2 : Sx.n (.q ⟨ts, o, n, c, k', y, m⟩) = n := rfl
    have f3 : Sx.b (.q ⟨ts, o, n, c, k', y, m⟩) = y := rfl
    have f4 : Sx.b (.q ⟨List.take n (List.drop o ts) ++ List.take 1 (List.drop 0 [p]), 0, n + 1, none, k', y, m⟩) = y := rfl
    have e2 : (List.take n (List.drop o ts) ++ [p]).length = n + 1 := by simp; omega
    have dk : (n : Int) < k' → okSd ⟨List.take n (List.drop o ts) ++ [p], 0, n + 1, none, k', y, m⟩ = true := fun hh => okSd_iff.2 ⟨⟨by show n + 1 ≤ 1000; omega, a2, a3, a4, a5, a6, a7⟩, by show 0 + (n + 1) ≤ _; rw [e2]; omega, .inl rfl⟩
    have dl : Sd.l ⟨List.take n (List.drop o ts) ++ [p], 0, n + 1, none, k', y, m⟩ = Sd.l ⟨ts, o, n, c, k', y, m⟩ ++ [p] := by rw [Sd.l, Sd.l, List.drop_zero, List.take_of_length_le (Nat.le_of_eq e2)]
    rcases a9 with rfl | rfl
    · refine takes_of_treeQ hE (W_ok hS noL_ok) noT_ok (f := 4) (.inr (by kernel_rfl)) (hp_below _) (o0n_s1 a b v k' p i ts o n k' y m ) ?_
      by_cases g2 : (n : Int) < k'
      · have o2 : Sx.ok (.q ⟨List.take n (List.drop o ts) ++ List.take 1 (List.drop 0 [p]), 0, n + 1, none, k', y, m⟩) = true := dk g2
        have e1 : ¬ (k' - (n : Int) = 0) := by omega
        have l1 : (n + 1) * 208 ≤ 35184372088832 := by omega
        simp only [TreeQ.holds, decide_true, Bool.and_self, Bool.and_true, Bool.true_and, true_and, qSame_self, cap_self, o1, o2, f1, f2, f3, f4, e1, hg, a8, l1, w2, decide_eq_true_eq, decide_eq_false_iff_not, false_implies, not_false_eq_true, true_implies, forall_const]
        exact ⟨fun _ => fin1 (k := k') (p + 1) ⟨List.take n (List.drop o ts) ++ [p], 0, n + 1, none, k', y, m⟩  (mk1 (k := k') rfl (dk g2) (by rw [dl]; exact H.push i2 g2)) rfl, fun _ => fin1 (k := k') (p + 1) ⟨List.take n (List.drop o ts) ++ [p], 0, n + 1, none, k', y, m⟩  (mk1 (k := k') rfl (dk g2) (by rw [dl]; exact H.push i2 g2)) rfl⟩
      · have e1 : k' - (n : Int) = 0 := by omega
        have e3 : decide (p - y < k') = false := decide_eq_false (by omega)
        simp only [TreeQ.holds, decide_true, Bool.and_self, Bool.and_true, Bool.true_and, true_and, qSame_self, cap_self, o1, f1, f2, f3, e1, w0, w1, e3, not_true_eq_false, Bool.not_true, Bool.false_eq_true, Bool.true_eq_false, decide_eq_true_eq, decide_eq_false_iff_not, false_implies, not_false_eq_true, true_implies, forall_const, and_true]
        exact fin1 (k := k') p ⟨ts, o, n, none, k', y, m⟩  (mk1 (k := k') rfl hx U) rfl
    · refine takes_of_treeQ hE (W_ok hS noL_ok) noT_ok (f := 4) (.inr (by kernel_rfl)) (hp_below _) (o0c_s1 a b v k' p i ts o n k' y m ) ?_
      by_cases g2 : (n : Int) < k'
      · have o2 : Sx.ok (.q ⟨List.take n (List.drop o ts) ++ List.take 1 (List.drop 0 [p]), 0, n + 1, none, k', y, m⟩) = true := dk g2
        have e1 : ¬ (k' - (n : Int) = 0) := by omega
        have hb : Nat.ble (n + 1) n = false := by cases hh : Nat.ble (n + 1) n with
          | false => rfl
          | true => exact absurd (Nat.le_of_ble_eq_true hh) (by omega)
        have l1 : (n + 1) * 208 ≤ 35184372088832 := by omega
        simp only [TreeQ.holds, decide_true, Bool.and_self, Bool.and_true, Bool.true_and, true_and, qSame_self, cap_self, o1, o2, f1, f2, f3, f4, e1, hg, a8, l1, w2, hb, decide_eq_true_eq, decide_eq_false_iff_not, false_implies, not_false_eq_true, true_implies, forall_const]
        exact ⟨fun _ => fin1 (k := k') (p + 1) ⟨List.take n (List.drop o ts) ++ [p], 0, n + 1, none, k', y, m⟩  (mk1 (k := k') rfl (dk g2) (by rw [dl]; exact H.push i2 g2)) rfl, fun _ => fin1 (k := k') (p + 1) ⟨List.take n (List.drop o ts) ++ [p], 0, n + 1, none, k', y, m⟩  (mk1 (k := k') rfl (dk g2) (by rw [dl]; exact H.push i2 g2)) rfl⟩
      · have e1 : k' - (n : Int) = 0 := by omega
        have e3 : decide (p - y < k') = false := decide_eq_false (by omega)
        simp only [TreeQ.holds, decide_true, Bool.and_self, Bool.and_true, Bool.true_and, true_and, qSame_self, cap_self, o1, f1, f2, f3, e1, w0, w1, e3, not_true_eq_false, Bool.not_true, Bool.false_eq_true, Bool.true_eq_false, decide_eq_true_eq, decide_eq_false_iff_not, false_implies, not_false_eq_true, true_implies, forall_const, and_true]
        exact fin1 (k := k') p ⟨ts, o, n, some n, k', y, m⟩  (mk1 (k := k') rfl hx U) rfl
  | s2 x es =>
    obtain ⟨xk, hx, H⟩ := un2 hs
    have U := H.up i2
    have hk := newK H.hk
    have h1 := H.ai
    have h2 := H.ei
    have o1 : Sx.ok (.q x) = true := hx
    obtain ⟨ts, o, n, c, k', y, m⟩ := x
    simp only at xk
    subst xk
    obtain ⟨⟨a1, a2, a3, a4, a5, a6, a7⟩, a8, a9⟩ := okSd_iff.1 hx
    simp only at a1 a2 a3 a4 a5 a6 a7 a8 a9
    have hn := H.nk
    have hbn := H.bn
    have hp2 := H.pi
    simp only at hn hbn
    have w0 : wr .i64 y = y := wr_in ⟨by omega, by omega⟩
    have w1 : wr .i64 (p - y) = p - y := wr_in ⟨by omega, by omega⟩
    have w2 : wr .i64 (p + 1) = p + 1 := wr_in ⟨by omega, by omega⟩
    have hg := qGrown_true ts o n p a8
    have f1 : Sx.k (.q ⟨ts, o, n, c, k', y, m⟩) = k' := rfl
    have f2 : Sx.n (.q ⟨ts, o, n, c, k', y, m⟩) = n := rfl
    have f3 : Sx.b (.q ⟨ts, o, n, c, k', y, m⟩) = y := rfl
    have f4 : Sx.b (.q ⟨List.take n (List.drop o ts) ++ List.take 1 (List.drop 0 [p]), 0, n + 1, none, k', y, m⟩) = y := rfl
    have e2 : (List.take n (List.drop o ts) ++ [p]).length = n + 1 := by simp; omega
    have dk : (n : Int) < k' → okSd ⟨List.take n (List.drop o ts) ++ [p], 0, n + 1, none, k', y, m⟩ = true := fun hh => okSd_iff.2 ⟨⟨by show n + 1 ≤ 1000; omega, a2, a3, a4, a5, a6, a7⟩, by show 0 + (n + 1) ≤ _; rw [e2]; omega, .inl rfl⟩
    have dl : Sd.l ⟨List.take n (List.drop o ts) ++ [p], 0, n + 1, none, k', y, m⟩ = Sd.l ⟨ts, o, n, c, k', y, m⟩ ++ [p] := by rw [Sd.l, Sd.l, List.drop_zero, List.take_of_length_le (Nat.le_of_eq e2)]
    rcases a9 with rfl | rfl
    · refine takes_of_treeQ hE (W_ok hS noL_ok) noT_ok (f := 4) (.inr (by kernel_rfl)) (hp_below _) (o0n_s2 a b v k' p i ts o n k' y m es) ?_
      by_cases g2 : (n : Int) < k'
      · have o2 : Sx.ok (.q ⟨List.take n (List.drop o ts) ++ List.take 1 (List.drop 0 [p]), 0, n + 1, none, k', y, m⟩) = true := dk g2
        have e1 : ¬ (k' - (n : Int) = 0) := by omega
        have l1 : (n + 1) * 208 ≤ 35184372088832 := by omega
        simp only [TreeQ.holds, decide_true, Bool.and_self, Bool.and_true, Bool.true_and, true_and, qSame_self, cap_self, o1, o2, f1, f2, f3, f4, e1, hg, a8, l1, w2, decide_eq_true_eq, decide_eq_false_iff_not, false_implies, not_false_eq_true, true_implies, forall_const]
        exact ⟨fun _ => fin2 (k := k') (p + 1) ⟨List.take n (List.drop o ts) ++ [p], 0, n + 1, none, k', y, m⟩ es (mk2 (k := k') rfl (dk g2) (by rw [dl]; exact H.push i2 g2)) rfl, fun _ => fin2 (k := k') (p + 1) ⟨List.take n (List.drop o ts) ++ [p], 0, n + 1, none, k', y, m⟩ es (mk2 (k := k') rfl (dk g2) (by rw [dl]; exact H.push i2 g2)) rfl⟩
      · have e1 : k' - (n : Int) = 0 := by omega
        have e3 : decide (p - y < k') = false := decide_eq_false (by omega)
        simp only [TreeQ.holds, decide_true, Bool.and_self, Bool.and_true, Bool.true_and, true_and, qSame_self, cap_self, o1, f1, f2, f3, e1, w0, w1, e3, not_true_eq_false, Bool.not_true, Bool.false_eq_true, Bool.true_eq_false, decide_eq_true_eq, decide_eq_false_iff_not, false_implies, not_false_eq_true, true_implies, forall_const, and_true]
        exact fin2 (k := k') p ⟨ts, o, n, none, k', y, m⟩ es (mk2 (k := k') rfl hx U) rfl
    · refine takes_of_treeQ hE (W_ok hS noL_ok) noT_ok (f := 4) (.inr (by kernel_rfl)) (hp_below _) (o0c_s2 a b v k' p i ts o n k' y m es) ?_
      by_cases g2 : (n : Int) < k'
      · have o2 : Sx.ok (.q ⟨List.take n (List.drop o ts) ++ List.take 1 (List.drop 0 [p]), 0, n + 1, none, k', y, m⟩) = true := dk g2
        have e1 : ¬ (k' - (n : Int) = 0) := by omega
        have hb : Nat.ble (n + 1) n = false := by cases hh : Nat.ble (n + 1) n with
          | false => rfl
          | true => exact absurd (Nat.le_of_ble_eq_true hh) (by omega)
        have l1 : (n + 1) * 208 ≤ 35184372088832 := by omega
        simp only [TreeQ.holds, decide_true, Bool.and_self, Bool.and_true, Bool.true_and, true_and, qSame_self, cap_self, o1, o2, f1, f2, f3, f4, e1, hg, a8, l1, w2, hb, decide_eq_true_eq, decide_eq_false_iff_not, false_implies, not_false_eq_true, true_implies, forall_const]
        exact ⟨fun _ => fin2 (k := k') (p + 1) ⟨List.take n (List.drop o ts) ++ [p], 0, n + 1, none, k', y, m⟩ es (mk2 (k := k') rfl (dk g2) (by rw [dl]; exact H.push i2 g2)) rfl, fun _ => fin2 (k := k') (p + 1) ⟨List.take n (List.drop o ts) ++ [p], 0, n + 1, none, k', y, m⟩ es (mk2 (k := k') rfl (dk g2) (by rw [dl]; exact H.push i2 g2)) rfl⟩
      · have e1 : k' - (n : Int) = 0 := by omega
        have e3 : decide (p - y < k') = false := decide_eq_false (by omega)
        simp only [TreeQ.holds, decide_true, Bool.and_self, Bool.and_true, Bool.true_and, true_and, qSame_self, cap_self, o1, f1, f2, f3, e1, w0, w1, e3, not_true_eq_false, Bool.not_true, Bool.false_eq_true, Bool.true_eq_false, decide_eq_true_eq, decide_eq_false_iff_not, false_implies, not_false_eq_true, true_implies, forall_const, and_true]
        exact fin2 (k := k') p ⟨ts, o, n, some n, k', y, m⟩ es (mk2 (k := k') rfl hx U) rfl
  | s3 x es an rs =>
    obtain ⟨xk, hx, H⟩ := un3 hs
    have U := H.up i2
    have hk := newK H.hk
    have h1 := H.ai
    have h2 := H.ei
    have o1 : Sx.ok (.q x) = true := hx
    obtain ⟨ts, o, n, c, k', y, m⟩ := x
    simp only at xk
    subst xk
    obtain ⟨⟨a1, a2, a3, a4, a5, a6, a7⟩, a8, a9⟩ := okSd_iff.1 hx
    simp only at a1 a2 a3 a4 a5 a6 a7 a8 a9
    have hn := H.nk
    have hbn := H.bn
    have hp2 := H.pi
    simp only at hn hbn
    have w0 : wr .i64 y = y := wr_in ⟨by omega, by omega⟩
    have w1 : wr .i64 (p - y) = p - y := wr_in ⟨by omega, by omega⟩
    have w2 : wr .i64 (p + 1) = p + 1 := wr_in ⟨by omega, by omega⟩
    have hg := qGrown_true ts o n p a8
    have f1 : Sx.k (.q ⟨ts, o, n, c, k', y, m⟩) = k' := rfl
    have f2 : Sx.n (.q ⟨ts, o, n, c, k', y, m⟩) = n := rfl
    have f3 : Sx.b (.q ⟨ts, o, n, c, k', y, m⟩) = y := rfl
    have f4 : Sx.b (.q ⟨List.take n (List.drop o ts) ++ List.take 1 (List.drop 0 [p]), 0, n + 1, none, k', y, m⟩) = y := rfl
    have e2 : (List.take n (List.drop o ts) ++ [p]).length = n + 1 := by simp; omega
    have dk : (n : Int) < k' → okSd ⟨List.take n (List.drop o ts) ++ [p], 0, n + 1, none, k', y, m⟩ = true := fun hh => okSd_iff.2 ⟨⟨by show n + 1 ≤ 1000; omega, a2, a3, a4, a5, a6, a7⟩, by show 0 + (n + 1) ≤ _; rw [e2]; omega, .inl rfl⟩
    have dl : Sd.l ⟨List.take n (List.drop o ts) ++ [p], 0, n + 1, none, k', y, m⟩ = Sd.l ⟨ts, o, n, c, k', y, m⟩ ++ [p] := by rw [Sd.l, Sd.l, List.drop_zero, List.take_of_length_le (Nat.le_of_eq e2)]
    rcases a9 with rfl | rfl
    · refine takes_of_treeQ hE (W_ok hS noL_ok) noT_ok (f := 4) (.inr (by kernel_rfl)) (hp_below _) (o0n_s3 a b v k' p i ts o n k' y m es an rs) ?_
      by_cases g2 : (n : Int) < k'
      · have o2 : Sx.ok (.q ⟨List.take n (List.drop o ts) ++ List.take 1 (List.drop 0 [p]), 0, n + 1, none, k', y, m⟩) = true := dk g2
        have e1 : ¬ (k' - (n : Int) = 0) := by omega
        have l1 : (n + 1) * 208 ≤ 35184372088832 := by omega
        simp only [TreeQ.holds, decide_true, Bool.and_self, Bool.and_true, Bool.true_and, true_and, qSame_self, cap_self, o1, o2, f1, f2, f3, f4, e1, hg, a8, l1, w2, decide_eq_true_eq, decide_eq_false_iff_not, false_implies, not_false_eq_true, true_implies, forall_const]
        exact ⟨fun _ => fin3 (k := k') (p + 1) ⟨List.take n (List.drop o ts) ++ [p], 0, n + 1, none, k', y, m⟩ es an rs (mk3 (k := k') rfl (dk g2) (by rw [dl]; exact H.push i2 g2)) rfl, fun _ => fin3 (k := k') (p + 1) ⟨List.take n (List.drop o ts) ++ [p], 0, n + 1, none, k', y, m⟩ es an rs (mk3 (k := k') rfl (dk g2) (by rw [dl]; exact H.push i2 g2)) rfl⟩
      · have e1 : k' - (n : Int) = 0 := by omega
        have e3 : decide (p - y < k') = false := decide_eq_false (by omega)
        simp only [TreeQ.holds, decide_true, Bool.and_self, Bool.and_true, Bool.true_and, true_and, qSame_self, cap_self, o1, f1, f2, f3, e1, w0, w1, e3, not_true_eq_false, Bool.not_true, Bool.false_eq_true, Bool.true_eq_false, decide_eq_true_eq, decide_eq_false_iff_not, false_implies, not_false_eq_true, true_implies, forall_const, and_true]
        exact fin3 (k := k') p ⟨ts, o, n, none, k', y, m⟩ es an rs (mk3 (k := k') rfl hx U) rfl
    · refine takes_of_treeQ hE (W_ok hS noL_ok) noT_ok (f := 4) (.inr (by kernel_rfl)) (hp_below _) (o0c_s3 a b v k' p i ts o n k' y m es an rs) ?_
      by_cases g2 : (n : Int) < k'
      · have o2 : Sx.ok (.q ⟨List.take n (List.drop o ts) ++ List.take 1 (List.drop 0 [p]), 0, n + 1, none, k', y, m⟩) = true := dk g2
        have e1 : ¬ (k' - (n : Int) = 0) := by omega
        have hb : Nat.ble (n + 1) n = false := by cases hh : Nat.ble (n + 1) n with
          | false => rfl
          | true => exact absurd (Nat.le_of_ble_eq_true hh) (by omega)
        have l1 : (n + 1) * 208 ≤ 35184372088832 := by omega
        simp only [TreeQ.holds, decide_true, Bool.and_self, Bool.and_true, Bool.true_and, true_and, qSame_self, cap_self, o1, o2, f1, f2, f3, f4, e1, hg, a8, l1, w2, hb, decide_eq_true_eq, decide_eq_false_iff_not, false_implies, not_false_eq_true, true_implies, forall_const]
        exact ⟨fun _ => fin3 (k := k') (p + 1) ⟨List.take n (List.drop o ts) ++ [p], 0, n + 1, none, k', y, m⟩ es an rs (mk3 (k := k') rfl (dk g2) (by rw [dl]; exact H.push i2 g2)) rfl, fun _ => fin3 (k := k') (p + 1) ⟨List.take n (List.drop o ts) ++ [p], 0, n + 1, none, k', y, m⟩ es an rs (mk3 (k := k') rfl (dk g2) (by rw [dl]; exact H.push i2 g2)) rfl⟩
      · have e1 : k' - (n : Int) = 0 := by omega
        have e3 : decide (p - y < k') = false := decide_eq_false (by omega)
        simp only [TreeQ.holds, decide_true, Bool.and_self, Bool.and_true, Bool.true_and, true_and, qSame_self, cap_self, o1, f1, f2, f3, e1, w0, w1, e3, not_true_eq_false, Bool.not_true, Bool.false_eq_true, Bool.true_eq_false, decide_eq_true_eq, decide_eq_false_iff_not, false_implies, not_false_eq_true, true_implies, forall_const, and_true]
        exact fin3 (k := k') p ⟨ts, o, n, some n, k', y, m⟩ es an rs (mk3 (k := k') rfl hx U) rfl
  | s4 x es an rs tk f q =>
    obtain ⟨xk, hx, H⟩ := un4 hs
    have U := H.up i2
    have hk := newK H.hk
    have h1 := H.ai
    have h2 := H.ei
    have o1 : Sx.ok (.q x) = true := hx
    obtain ⟨ts, o, n, c, k', y, m⟩ := x
    simp only at xk
    subst xk
    obtain ⟨⟨a1, a2, a3, a4, a5, a6, a7⟩, a8, a9⟩ := okSd_iff.1 hx
    simp only at a1 a2 a3 a4 a5 a6 a7 a8 a9
    have hn := H.nk
    have hbn := H.bn
    have hp2 := H.pi
    simp only at hn hbn
    have w0 : wr .i64 y = y := wr_in ⟨by omega, by omega⟩
    have w1 : wr .i64 (p - y) = p - y := wr_in ⟨by omega, by omega⟩
    have w2 : wr .i64 (p + 1) = p + 1 := wr_in ⟨by omega, by omega⟩
    have hg := qGrown_true ts o n p a8
    have f1 : Sx.k (.q ⟨ts, o, n, c, k', y, m⟩) = k' := rfl
    have f2 : Sx.n (.q ⟨ts, o, n, c, k', y, m⟩) = n := rfl
    have f3 : Sx.b (.q ⟨ts, o, n, c, k', y, m⟩) = y := rfl
    have f4 : Sx.b (.q ⟨List.take n (List.drop o ts) ++ List.take 1 (List.drop 0 [p]), 0, n + 1, none, k', y, m⟩) = y := rfl
    have e2 : (List.take n (List.drop o ts) ++ [p]).length = n + 1 := by simp; omega
    have dk : (n : Int) < k' → okSd ⟨List.take n (List.drop o ts) ++ [p], 0, n + 1, none, k', y, m⟩ = true := fun hh => okSd_iff.2 ⟨⟨by show n + 1 ≤ 1000; omega, a2, a3, a4, a5, a6, a7⟩, by show 0 + (n + 1) ≤ _; rw [e2]; omega, .inl rfl⟩
    have dl : Sd.l ⟨List.take n (List.drop o ts) ++ [p], 0, n + 1, none, k', y, m⟩ = Sd.l ⟨ts, o, n, c, k', y, m⟩ ++ [p] := by rw [Sd.l, Sd.l, List.drop_zero, List.take_of_length_le (Nat.le_of_eq e2)]
    rcases a9 with rfl | rfl
    · refine takes_of_treeQ hE (W_ok hS noL_ok) noT_ok (f := 4) (.inr (by kernel_rfl)) (hp_below _) (o0n_s4 a b v k' p i ts o n k' y m es an rs tk f q) ?_
      by_cases g2 : (n : Int) < k'
      · have o2 : Sx.ok (.q ⟨List.take n (List.drop o ts) ++ List.take 1 (List.drop 0 [p]), 0, n + 1, none, k', y, m⟩) = true := dk g2
        have e1 : ¬ (k' - (n : Int) = 0) := by omega
        have l1 : (n + 1) * 208 ≤ 35184372088832 := by omega
        simp only [TreeQ.holds, decide_true, Bool.and_self, Bool.and_true, Bool.true_and, true_and, qSame_self, cap_self, o1, o2, f1, f2, f3, f4, e1, hg, a8, l1, w2, decide_eq_true_eq, decide_eq_false_iff_not, false_implies, not_false_eq_true, true_implies, forall_const]
        exact ⟨fun _ => fin4 (k := k') (p + 1) ⟨List.take n (List.drop o ts) ++ [p], 0, n + 1, none, k', y, m⟩ es an rs tk f q (mk4 (k := k') rfl (dk g2) (by rw [dl]; exact H.push i2 g2)) rfl, fun _ => fin4 (k := k') (p + 1) ⟨List.take n (List.drop o ts) ++ [p], 0, n + 1, none, k', y, m⟩ es an rs tk f q (mk4 (k := k') rfl (dk g2) (by rw [dl]; exact H.push i2 g2)) rfl⟩
      · have e1 : k' - (n : Int) = 0 := by omega
        have e3 : decide (p - y < k') = false := decide_eq_false (by omega)
        simp only [TreeQ.holds, decide_true, Bool.and_self, Bool.and_true, Bool.true_and, true_and, qSame_self, cap_self, o1, f1, f2, f3, e1, w0, w1, e3, not_true_eq_false, Bool.not_true, Bool.false_eq_true, Bool.true_eq_false, decide_eq_true_eq, decide_eq_false_iff_not, false_implies, not_false_eq_true, true_implies, forall_const, and_true]
        exact fin4 (k := k') p ⟨ts, o, n, none, k', y, m⟩ es an rs tk f q (mk4 (k := k') rfl hx U) rfl
    · refine takes_of_treeQ hE (W_ok hS noL_ok) noT_ok (f := 4) (.inr (by kernel_rfl)) (hp_below _) (o0c_s4 a b v k' p i ts o n k' y m es an rs tk f q) ?_
      by_cases g2 : (n : Int) < k'
      · have o2 : Sx.ok (.q ⟨List.take n (List.drop o ts) ++ List.take 1 (List.drop 0 [p]), 0, n + 1, none, k', y, m⟩) = true := dk g2
        have e1 : ¬ (k' - (n : Int) = 0) := by omega
        have hb : Nat.ble (n + 1) n = false := by cases hh : Nat.ble (n + 1) n with
          | false => rfl
          | true => exact absurd (Nat.le_of_ble_eq_true hh) (by omega)
        have l1 : (n + 1) * 208 ≤ 35184372088832 := by omega
        simp only [TreeQ.holds, decide_true, Bool.and_self, Bool.and_true, Bool.true_and, true_and, qSame_self, cap_self, o1, o2, f1, f2, f3, f4, e1, hg, a8, l1, w2, hb, decide_eq_true_eq, decide_eq_false_iff_not, false_implies, not_false_eq_true, true_implies, forall_const]
        exact ⟨fun _ => fin4 (k := k') (p + 1) ⟨List.take n (List.drop o ts) ++ [p], 0, n + 1, none, k', y, m⟩ es an rs tk f q (mk4 (k := k') rfl (dk g2) (by rw [dl]; exact H.push i2 g2)) rfl, fun _ => fin4 (k := k') (p + 1) ⟨List.take n (List.drop o ts) ++ [p], 0, n + 1, none, k', y, m⟩ es an rs tk f q (mk4 (k := k') rfl (dk g2) (by rw [dl]; exact H.push i2 g2)) rfl⟩
      · have e1 : k' - (n : Int) = 0 := by omega
        have e3 : decide (p - y < k') = false := decide_eq_false (by omega)
        simp only [TreeQ.holds, decide_true, Bool.and_self, Bool.and_true, Bool.true_and, true_and, qSame_self, cap_self, o1, f1, f2, f3, e1, w0, w1, e3, not_true_eq_false, Bool.not_true, Bool.false_eq_true, Bool.true_eq_false, decide_eq_true_eq, decide_eq_false_iff_not, false_implies, not_false_eq_true, true_implies, forall_const, and_true]
        exact fin4 (k := k') p ⟨ts, o, n, some n, k', y, m⟩ es an rs tk f q (mk4 (k := k') rfl hx U) rfl

theorem TO_ok : ToldsOK Try.prog (tabC a b) ra base 0 (TO a) :=
  sumT_ok (sumT_ok (sumT_ok (sumT_ok (sumT_ok noT_ok rfl (toldR_ok (c := codeOf 4 pO5) (by kernel_rfl) o5_takes)) rfl (toldR_ok (c := codeOf 4 pO4) (by kernel_rfl) fun y hy => by simpa only [armD, noT', List.append_nil] using o4_takes y hy)) rfl (toldR_ok (c := codeOf 4 pO3) (by kernel_rfl) o3_takes)) rfl (toldR_ok (c := codeOf 4 pO1) (by kernel_rfl) o1_takes)) rfl (toldR_ok (c := codeOf 4 pO0) (by kernel_rfl) fun y hy => by simpa only [armD, noT', List.append_nil] using o0_takes y hy)
end

end Go.Proofs.Ytoahbijmemgghaa
