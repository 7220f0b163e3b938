/- oper: OperParts: all operators, one behind the other. -/
import Derived.Test.YtbfebjmmpiffpaaP04x
set_option linter.unusedSimpArgs false
set_option linter.unusedVariables false
namespace Go.Proofs.Ytbfebjmmpiffpaa
open Ab

def catO (a b : Go.Proofs.Ytbfebjmmpiffpaa.Os) : Go.Proofs.Ytbfebjmmpiffpaa.Os := ⟨a.kk ++ b.kk, a.aa ++ b.aa, a.bb ++ b.bb, a.gg ++ b.gg⟩
theorem of_toO {o : Go.Proofs.Ytbfebjmmpiffpaa.Os} (h : lensO o = true) : Os.of (toO o) = o := by
  simp only [lensO, Bool.and_eq_true, decide_eq_true_eq] at h
  obtain ⟨h1, h2, h3⟩ := h
  obtain ⟨a, b, c, d⟩ := o
  simp only at h1 h2 h3
  simp only [Os.of, toO, List.map_map, Os.mk.injEq]
  exact ⟨map_getD rfl 0, map_getD h1 0, map_getD h2 0, map_getD h3 0⟩
theorem cat_toO {a b : Go.Proofs.Ytbfebjmmpiffpaa.Os} (ha : lensO a = true) (hb : lensO b = true) : lensO (catO a b) = true ∧ toO (catO a b) = toO a ++ toO b := by
  have e : catO a b = Os.of (toO a ++ toO b) := by
    conv => lhs; rw [← of_toO ha, ← of_toO hb]
    simp only [catO, Os.of, List.map_append]
  rw [e]
  exact ⟨lensO_of _, toO_of _⟩
theorem okO1_iff {f : Bool} {o : Go.Proofs.Ytbfebjmmpiffpaa.Os} : okO1 f o = true ↔ lensO o = true ∧ o.kk.length ≤ 6 ∧ ((f = true ∧ 0 < o.kk.length) ∨ (f = false ∧ o.kk.length = 0)) := by
  cases f <;> simp [okO1]
theorem ble_no {n : Nat} (h : 0 < n) : Nat.ble n 0 = false := by
  cases hb : Nat.ble n 0 with
  | false => rfl
  | true => have := Nat.le_of_ble_eq_true hb; omega
/-- all of a column -/
structure Alls (o : Go.Proofs.Ytbfebjmmpiffpaa.Os) : Prop where
  k : List.take o.kk.length (List.drop 0 o.kk) = o.kk
  a : List.take o.kk.length (List.drop 0 o.aa) = o.aa
  b : List.take o.kk.length (List.drop 0 o.bb) = o.bb
  g : List.take o.kk.length (List.drop 0 o.gg) = o.gg
theorem alls_of {o : Go.Proofs.Ytbfebjmmpiffpaa.Os} (h : lensO o = true) : Alls o := by
  simp only [lensO, Bool.and_eq_true, decide_eq_true_eq] at h
  obtain ⟨h1, h2, h3⟩ := h
  refine ⟨?_, ?_, ?_, ?_⟩ <;> rw [List.drop_zero] <;> exact List.take_of_length_le (by omega)

section
variable {ra : Nat → Nat → Nat × Nat} {base : Nat} {T : Tb}

theorem pw_some {x : Pr} {W : List Rc} {c : Option Nat} (h : appW x.a x.b x.r = W) (hne : W ≠ []) {w : State} (hw : w = (.normal, mkT 161 (x.at ++ [(9, .slice (.own (1 + cond x.af 1 0 + cond x.bf 1 0) 0 0 6) W.length c)]), hp 0 (x.blks ++ [.segs [⟨W.length, 6, [.int .u32 (W.map Rc.key), .int .i64 (W.map Rc.time), .int .i64 (W.map Rc.val), .int .u8 (W.map Rc.side), .bool (W.map Rc.err), .bool (W.map Rc.late)]⟩]]))) : PostL 161 x w pwD.alts := by
  refine .inr ⟨⟨Rs.of W, c⟩, ⟨by rw [h], by rw [h]; exact hne⟩, ?_⟩
  show w = (AExit.normal, mkT 161 (x.at ++ [(9, .slice (.own (1 + cond x.af 1 0 + cond x.bf 1 0) 0 0 6) (Rs.of W).ks.length c)]), hp 0 (x.blks ++ [(Rs.of W).blk]))
  rw [ks_len, of_blk]; exact hw
theorem pw_none {x : Pr} (h : appW x.a x.b x.r = []) {w : State} (hw : w = (.normal, mkT 161 (x.at ++ [(9, .nils)]), hp 0 x.blks)) : PostL 161 x w pwD.alts := .inl ⟨(), h, hw⟩
theorem none_iff {x : Ap} {W : List Rc} (h : x.res = W) : (x.none = true → W = []) ∧ (x.none = false → W ≠ []) := by
  rw [Ap.none, h]
  exact ⟨fun hh => List.isEmpty_iff.1 hh, fun hh hn => by rw [hn] at hh; cases hh⟩

theorem pw_takes (x : Pr) (hx : pwD.pre x = true) : Takes Try.prog (tabT T) ra base 0 (codeOf 5 gW) (mkT 161 (pwD.ins x)) (hp 0 (pwD.blks x)) fun w => PostL 161 x w pwD.alts := by
  have hE := tabT_plain T
  have hS := S5_ok (ra := ra) (base := base) T
  obtain ⟨⟨ky, t, v, s, e, l⟩, af, a, bf, b⟩ := x
  simp only [pwD, Bool.and_eq_true] at hx
  obtain ⟨h1, h2⟩ := hx
  obtain ⟨a1, a2, a3⟩ := okO1_iff.1 h1
  obtain ⟨b1, b2, b3⟩ := okO1_iff.1 h2
  obtain ⟨ka, kb, kc, kd⟩ := alls_of a1
  obtain ⟨la, lb, lc, ld⟩ := alls_of b1
  rcases a3 with ⟨rfl, a3⟩ | ⟨rfl, a3⟩ <;> rcases b3 with ⟨rfl, b3⟩ | ⟨rfl, b3⟩
  · obtain ⟨g1, g2⟩ := cat_toO a1 b1
    have hres : Ap.res ⟨true, ⟨a.kk ++ b.kk, a.aa ++ b.aa, a.bb ++ b.bb, a.gg ++ b.gg⟩, none, ⟨ky, t, v, s, e, l⟩⟩ = appW a b ⟨ky, t, v, s, e, l⟩ := by
      show (toO (catO a b)).foldl _ _ = _
      rw [g2]; rfl
    have hok : okAp ⟨true, ⟨a.kk ++ b.kk, a.aa ++ b.aa, a.bb ++ b.bb, a.gg ++ b.gg⟩, none, ⟨ky, t, v, s, e, l⟩⟩ = true := okAp_iff.2 ⟨g1, by show (a.kk ++ b.kk).length ≤ 12; rw [List.length_append]; omega, fun h => by cases h⟩
    obtain ⟨n1, n2⟩ := none_iff hres
    generalize hW : appW a b ⟨ky, t, v, s, e, l⟩ = W at *
    refine takes_of_tree hE (wE hE hS) (f := 5) (.inr (by kernel_rfl)) (hp_below _) (pw_11 T ky t v s e l a b) ?_
    have c1 : Nat.ble a.kk.length 0 = false := ble_no a3
    have c2 : decide (a.kk.length * 32 ≤ 35184372088832) = true := room (by omega)
    have c3 : decide ((a.kk.length + b.kk.length) * 32 ≤ 35184372088832) = true := room (by omega)
    simp only [Nat.zero_add]
    simp only [ka, kb, kc, kd, la, lb, lc, ld]
    simp only [hres, hok, List.length_append, List.length_map, c1, c2, c3, Nat.le_refl, Tree.holds, decide_true, Bool.and_self, Bool.and_true, Bool.true_and, true_and, and_true]
    refine ⟨fun hn => ⟨hn, pw_none (x := ⟨⟨ky, t, v, s, e, l⟩, true, a, true, b⟩) (hW.trans (n1 hn)) rfl⟩, fun hn => ⟨by rw [hn]; rfl, pw_some (x := ⟨⟨ky, t, v, s, e, l⟩, true, a, true, b⟩) hW (n2 hn) rfl⟩⟩
  · obtain rfl := nil_lenO b1 b3
    have hres : Ap.res ⟨true, a, none, ⟨ky, t, v, s, e, l⟩⟩ = appW a Os.none ⟨ky, t, v, s, e, l⟩ := by
      show (toO a).foldl _ _ = (toO a ++ []).foldl _ _
      rw [List.append_nil]
    have hok : okAp ⟨true, a, none, ⟨ky, t, v, s, e, l⟩⟩ = true := okAp_iff.2 ⟨a1, by show a.kk.length ≤ 12; omega, fun h => by cases h⟩
    obtain ⟨n1, n2⟩ := none_iff hres
    generalize hW : appW a Os.none ⟨ky, t, v, s, e, l⟩ = W at *
    refine takes_of_tree hE (wE hE hS) (f := 5) (.inr (by kernel_rfl)) (hp_below _) (pw_10 T ky t v s e l a) ?_
    have c1 : Nat.ble a.kk.length 0 = false := ble_no a3
    have c2 : decide (a.kk.length * 32 ≤ 35184372088832) = true := room (by omega)
    simp only [Nat.zero_add, Nat.add_zero]
    simp only [ka, kb, kc, kd, List.append_nil]
    simp only [hres, hok, List.length_map, c1, c2, Nat.le_refl, Tree.holds, decide_true, Bool.and_self, Bool.and_true, Bool.true_and, true_and, and_true]
    refine ⟨fun hn => ⟨hn, pw_none (x := ⟨⟨ky, t, v, s, e, l⟩, true, a, false, Os.none⟩) (hW.trans (n1 hn)) rfl⟩, fun hn => ⟨by rw [hn]; rfl, pw_some (x := ⟨⟨ky, t, v, s, e, l⟩, true, a, false, Os.none⟩) hW (n2 hn) rfl⟩⟩
  · obtain rfl := nil_lenO a1 a3
    have hres : Ap.res ⟨true, b, none, ⟨ky, t, v, s, e, l⟩⟩ = appW Os.none b ⟨ky, t, v, s, e, l⟩ := rfl
    have hok : okAp ⟨true, b, none, ⟨ky, t, v, s, e, l⟩⟩ = true := okAp_iff.2 ⟨b1, by show b.kk.length ≤ 12; omega, fun h => by cases h⟩
    obtain ⟨n1, n2⟩ := none_iff hres
    generalize hW : appW Os.none b ⟨ky, t, v, s, e, l⟩ = W at *
    refine takes_of_tree hE (wE hE hS) (f := 5) (.inr (by kernel_rfl)) (hp_below _) (pw_01 T ky t v s e l b) ?_
    have c1 : Nat.ble b.kk.length 0 = false := ble_no b3
    have c2 : decide (b.kk.length * 32 ≤ 35184372088832) = true := room (by omega)
    simp only [Nat.zero_add, Nat.add_zero]
    simp only [la, lb, lc, ld]
    simp only [hres, hok, List.length_map, c1, c2, Nat.le_refl, Tree.holds, decide_true, Bool.and_self, Bool.and_true, Bool.true_and, true_and, and_true]
    refine ⟨fun hn => ⟨hn, pw_none (x := ⟨⟨ky, t, v, s, e, l⟩, false, Os.none, true, b⟩) (hW.trans (n1 hn)) rfl⟩, fun hn => ⟨by rw [hn]; rfl, pw_some (x := ⟨⟨ky, t, v, s, e, l⟩, false, Os.none, true, b⟩) hW (n2 hn) rfl⟩⟩
  · obtain rfl := nil_lenO a1 a3
    obtain rfl := nil_lenO b1 b3
    refine takes_of_tree hE (wE hE hS) (f := 5) (.inr (by kernel_rfl)) (hp_below _) (pw_00 T ky t v s e l) ?_
    simp only [Tree.holds, List.length_map, decide_true, Bool.and_self, Bool.and_true, Bool.true_and, true_and, and_true]
    exact pw_some (x := ⟨⟨ky, t, v, s, e, l⟩, false, Os.none, false, Os.none⟩) (W := [⟨ky, t, v, s, e, l⟩]) (c := some 1) rfl (by simp) rfl

theorem pg_takes (y : Pg) (hx : pgD.pre y = true) : Takes Try.prog (tabT T) ra base 0 (codeOf 5 gG) (mkT 161 (pgD.ins y)) (hp 0 (pgD.blks y)) fun w => PostL 161 y w pgD.alts := by
  have hE := tabT_plain T
  have hS := S5_ok (ra := ra) (base := base) T
  obtain ⟨⟨r, af, a, bf, b⟩, wf, w, wc, pf, p⟩ := y
  simp only [pgD, Bool.and_eq_true, decide_eq_true_eq] at hx
  obtain ⟨h1, h2, rfl⟩ := hx
  obtain ⟨a1, a2, a3⟩ := okO1_iff.1 h1
  obtain ⟨b1, b2, b3⟩ := okO1_iff.1 h2
  obtain ⟨ka, kb, kc, kd⟩ := alls_of a1
  obtain ⟨la, lb, lc, ld⟩ := alls_of b1
  rcases a3 with ⟨rfl, a3⟩ | ⟨rfl, a3⟩ <;> rcases b3 with ⟨rfl, b3⟩ | ⟨rfl, b3⟩
  · have c1 : Nat.ble a.kk.length 0 = false := ble_no a3
    have c2 : decide (a.kk.length * 32 ≤ 35184372088832) = true := room (by omega)
    have c3 : decide ((a.kk.length + b.kk.length) * 32 ≤ 35184372088832) = true := room (by omega)
    have hl : (a.kk ++ b.kk).length = a.kk.length + b.kk.length := List.length_append
    have hcat : (catO a b).blk = .segs [⟨a.kk.length + b.kk.length, 4, [.int .i64 (a.kk ++ b.kk), .int .i64 (a.aa ++ b.aa), .int .i64 (a.bb ++ b.bb), .int .i64 (a.gg ++ b.gg)]⟩] := by
      show Blk.segs [⟨(a.kk ++ b.kk).length, 4, _⟩] = _
      rw [hl]; rfl
    cases wf with
    | true =>
      refine takes_of_tree hE (wE hE hS) (f := 5) (.inr (by kernel_rfl)) (hp_below _) (pg_111 T r a b w wc p) ?_
      simp only [Nat.zero_add]
      simp only [ka, kb, kc, kd, la, lb, lc, ld]
      simp only [c1, c2, c3, Nat.le_refl, Tree.holds, decide_true, true_and]
      refine .inr ⟨catO a b, cat_toO a1 b1, ?_⟩
      show _ = (AExit.normal, mkT 161 [_, _, _, _, (14, AVal.slice (.own 3 0 0 4) (a.kk ++ b.kk).length none)], hp 0 [r.cells, w.blk, p.blk, (catO a b).blk])
      rw [hl, hcat]; rfl
    | false =>
      refine takes_of_tree hE (wE hE hS) (f := 5) (.inr (by kernel_rfl)) (hp_below _) (pg_110 T r a b) ?_
      simp only [Nat.zero_add]
      simp only [ka, kb, kc, kd, la, lb, lc, ld]
      simp only [c1, c2, c3, Nat.le_refl, Tree.holds, decide_true, true_and]
      refine .inr ⟨catO a b, cat_toO a1 b1, ?_⟩
      show _ = (AExit.normal, mkT 161 [_, _, _, _, (14, AVal.slice (.own 1 0 0 4) (a.kk ++ b.kk).length none)], hp 0 [r.cells, (catO a b).blk])
      rw [hl, hcat]; rfl
  · obtain rfl := nil_lenO b1 b3
    have c1 : Nat.ble a.kk.length 0 = false := ble_no a3
    have c2 : decide (a.kk.length * 32 ≤ 35184372088832) = true := room (by omega)
    have hs : gSome a Os.none a := ⟨a1, by show toO a = toO a ++ []; rw [List.append_nil]⟩
    cases wf with
    | true =>
      refine takes_of_tree hE (wE hE hS) (f := 5) (.inr (by kernel_rfl)) (hp_below _) (pg_101 T r a w wc p) ?_
      simp only [Nat.zero_add, Nat.add_zero]
      simp only [ka, kb, kc, kd, List.append_nil]
      simp only [c1, c2, Nat.le_refl, Tree.holds, decide_true, true_and]
      exact .inr ⟨a, hs, rfl⟩
    | false =>
      refine takes_of_tree hE (wE hE hS) (f := 5) (.inr (by kernel_rfl)) (hp_below _) (pg_100 T r a) ?_
      simp only [Nat.zero_add, Nat.add_zero]
      simp only [ka, kb, kc, kd, List.append_nil]
      simp only [c1, c2, Nat.le_refl, Tree.holds, decide_true, true_and]
      exact .inr ⟨a, hs, rfl⟩
  · obtain rfl := nil_lenO a1 a3
    have c1 : Nat.ble b.kk.length 0 = false := ble_no b3
    have c2 : decide (b.kk.length * 32 ≤ 35184372088832) = true := room (by omega)
    have hs : gSome Os.none b b := ⟨b1, rfl⟩
    cases wf with
    | true =>
      refine takes_of_tree hE (wE hE hS) (f := 5) (.inr (by kernel_rfl)) (hp_below _) (pg_011 T r b w wc p) ?_
      simp only [Nat.zero_add, Nat.add_zero]
      simp only [la, lb, lc, ld]
      simp only [c1, c2, Nat.le_refl, Tree.holds, decide_true, true_and]
      exact .inr ⟨b, hs, rfl⟩
    | false =>
      refine takes_of_tree hE (wE hE hS) (f := 5) (.inr (by kernel_rfl)) (hp_below _) (pg_010 T r b) ?_
      simp only [Nat.zero_add, Nat.add_zero]
      simp only [la, lb, lc, ld]
      simp only [c1, c2, Nat.le_refl, Tree.holds, decide_true, true_and]
      exact .inr ⟨b, hs, rfl⟩
  · cases wf with
    | true => exact takes_of_tree hE (wE hE hS) (f := 5) (.inr (by kernel_rfl)) (hp_below _) (pg_001 T r w wc p) (.inl ⟨(), ⟨rfl, rfl⟩, rfl⟩)
    | false => exact takes_of_tree hE (wE hE hS) (f := 5) (.inr (by kernel_rfl)) (hp_below _) (pg_000 T r) (.inl ⟨(), ⟨rfl, rfl⟩, rfl⟩)

theorem TQ_ok (T : Tb) : ToldsOK Try.prog (tabT T) ra base 0 TQ :=
  sumT_ok (sumT_ok (sumT_ok (sumT_ok (sumT_ok noT_ok rfl (toldR_ok (c := .loop (codeOf 5 (false :: g4))) (by kernel_rfl) l4_takes)) rfl (toldR_ok (c := .loop (codeOf 5 (false :: g2))) (by kernel_rfl) l2_takes)) rfl (toldR_ok (c := .loop (codeOf 5 (false :: g0))) (by kernel_rfl) l0_takes)) rfl (toldR_ok (c := codeOf 5 gG) (by kernel_rfl) pg_takes)) rfl (toldR_ok (c := codeOf 5 gW) (by kernel_rfl) pw_takes)
end
end Go.Proofs.Ytbfebjmmpiffpaa
