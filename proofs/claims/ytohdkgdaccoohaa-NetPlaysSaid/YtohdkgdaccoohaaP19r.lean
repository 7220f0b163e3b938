/- net: NetPlays: the acts, walked. -/
import Derived.Test.YtohdkgdaccoohaaP19q
import Derived.Test.YtohdkgdaccoohaaT19q
set_option linter.unusedSimpArgs false
set_option linter.unusedVariables false
namespace Go.Proofs.Ytohdkgdaccoohaa
open Ab

section
variable {ra : Nat → Nat → Nat × Nat} {base : Nat} {T : Tb}

theorem sw_fin {V : AVal} {y y' : Nt} {r : Rr} {i : Nat} {k w : Int} {f' : Rf} {c' s' l' : Int} (h : relB y' ⟨c', f', s', l'⟩ (i + 1) = true) {z : State}
    (hz : z = (.normal, mkT 189 ((⟨V, y, r, (i : Nat)⟩ : Pl).out), hp 0 (twoB y' ⟨c', f', s', l'⟩))) : PostL 189 (⟨⟨V, y, r, (i : Nat)⟩, k, w⟩ : Pw) z (pwD T).alts := by
  have h : relB y' ⟨c', f', s', l'⟩ (Int.toNat (i : Int) + 1) = true := by rw [Int.toNat_natCast]; exact h
  cases f' with
  | n => exact .inl ⟨⟨y', c', s', l', []⟩, h, hz⟩
  | e => exact .inr (.inl ⟨⟨y', c', s', l', []⟩, h, hz⟩)
  | g L => exact .inr (.inr ⟨⟨y', c', s', l', L⟩, h, hz⟩)

theorem beq_tx (t : ByteArray) : (ByteArray.toList t == ByteArray.toList t) = true := beq_self_eq_true _

theorem sw_n_takes {y : Nt} {c s' l' : Int} {i : Nat} (h : relB y ⟨c, .n, s', l'⟩ i = true) (hi : i < T.w.length) (hi' : i < 100) (k w : Int) :
    Takes Try.prog (tabN T) ra base 0 (codeOf 3 qA) (mkT 189 (Pw.ins ⟨⟨.slice (.ro 0 0 0 0) T.w.length none, y, ⟨c, .n, s', l'⟩, (i : Nat)⟩, k, w⟩)) (hp 0 (Pl.blks ⟨.slice (.ro 0 0 0 0) T.w.length none, y, ⟨c, .n, s', l'⟩, (i : Nat)⟩))
      fun z => PostL 189 (⟨⟨.slice (.ro 0 0 0 0) T.w.length none, y, ⟨c, .n, s', l'⟩, (i : Nat)⟩, k, w⟩ : Pw) z (pwD T).alts := by
  have hE := tabN_plain T
  have hS := S2_ok (ra := ra) (base := base) hE
  refine takes_of_tree hE (wE hE hS) (f := 3) (.inr (by kernel_rfl)) (hp_below _) (sw_n T T.w.length y c s' l' i k w) ?_
  have hr : y.room = true := rel_room h
  obtain ⟨t1, t2, t3, t4, t5, t6⟩ := rel_no h (k := k) rfl
  have ok1 := rel_nt h (by omega)
  have ok2 := rel_rr h (by omega)
  have ok3 := rel_gone h (by omega) goneTx
  have c1 : decide (0 ≤ (i : Int)) = true := decide_eq_true (by omega)
  have c2 : decide ((i : Int) < (T.w.length : Nat)) = true := decide_eq_true (by omega)
  have c3 : decide (0 + Int.toNat (i : Int) < T.w.length) = true := decide_eq_true (by omega)
  have lS := fun z => sw_fin (T := T) (V := .slice (.ro 0 0 0 0) T.w.length none) (y := y) (r := ⟨c, .n, s', l'⟩) (k := k) (w := w) (rel_send h hr (T.t.getD (0 + Int.toNat (i : Int)) noTx)) (z := z)
  have lN := fun z => sw_fin (T := T) (V := .slice (.ro 0 0 0 0) T.w.length none) (y := y) (r := ⟨c, .n, s', l'⟩) (k := k) (w := w) (rel_same h) (z := z)
  have lC := fun z => sw_fin (T := T) (V := .slice (.ro 0 0 0 0) T.w.length none) (y := y) (r := ⟨c, .n, s', l'⟩) (k := k) (w := w) (rel_copy h) (z := z)
  simp only [Tree.holds, hr, t1, t2, t3, t4, t5, t6, ok1, ok2, ok3, c1, c2, c3, beq_tx, sameCap, decide_true, Bool.and_self, Bool.and_true, Bool.true_and, true_and, Bool.not_true, Bool.not_false, Bool.false_eq_true, Bool.true_eq_false, false_implies, forall_const, and_true]
  exact ⟨fun c => ⟨c, lS _ rfl⟩, fun _ => ⟨fun c => ⟨c, lS _ rfl⟩, fun _ => ⟨fun _ => lS _ rfl, fun _ => ⟨fun c => ⟨c, lN _ rfl⟩, fun _ => ⟨fun _ => lN _ rfl, fun _ => ⟨fun _ => lN _ rfl, fun _ => ⟨fun _ => ⟨fun _ => lN _ rfl, fun hh => ⟨decide_eq_true (by have := of_decide_eq_false hh; omega), lN _ rfl⟩⟩, fun _ => lC _ rfl⟩⟩⟩⟩⟩⟩⟩

theorem sw_e_takes {y : Nt} {c s' l' : Int} {i : Nat} (h : relB y ⟨c, .e, s', l'⟩ i = true) (hi : i < T.w.length) (hi' : i < 100) (k w : Int) :
    Takes Try.prog (tabN T) ra base 0 (codeOf 3 qA) (mkT 189 (Pw.ins ⟨⟨.slice (.ro 0 0 0 0) T.w.length none, y, ⟨c, .e, s', l'⟩, (i : Nat)⟩, k, w⟩)) (hp 0 (Pl.blks ⟨.slice (.ro 0 0 0 0) T.w.length none, y, ⟨c, .e, s', l'⟩, (i : Nat)⟩))
      fun z => PostL 189 (⟨⟨.slice (.ro 0 0 0 0) T.w.length none, y, ⟨c, .e, s', l'⟩, (i : Nat)⟩, k, w⟩ : Pw) z (pwD T).alts := by
  have hE := tabN_plain T
  have hS := S2_ok (ra := ra) (base := base) hE
  refine takes_of_tree hE (wE hE hS) (f := 3) (.inr (by kernel_rfl)) (hp_below _) (sw_e T T.w.length y c s' l' i k w) ?_
  have hr : y.room = true := rel_room h
  obtain ⟨t1, t2, t3, t4, t5, t6⟩ := rel_no h (k := k) rfl
  have ok1 := rel_nt h (by omega)
  have ok2 := rel_rr h (by omega)
  have ok3 := rel_gone h (by omega) goneTx
  have c1 : decide (0 ≤ (i : Int)) = true := decide_eq_true (by omega)
  have c2 : decide ((i : Int) < (T.w.length : Nat)) = true := decide_eq_true (by omega)
  have c3 : decide (0 + Int.toNat (i : Int) < T.w.length) = true := decide_eq_true (by omega)
  have lS := fun z => sw_fin (T := T) (V := .slice (.ro 0 0 0 0) T.w.length none) (y := y) (r := ⟨c, .e, s', l'⟩) (k := k) (w := w) (rel_send h hr (T.t.getD (0 + Int.toNat (i : Int)) noTx)) (z := z)
  have lN := fun z => sw_fin (T := T) (V := .slice (.ro 0 0 0 0) T.w.length none) (y := y) (r := ⟨c, .e, s', l'⟩) (k := k) (w := w) (rel_same h) (z := z)
  have lC := fun z => sw_fin (T := T) (V := .slice (.ro 0 0 0 0) T.w.length none) (y := y) (r := ⟨c, .e, s', l'⟩) (k := k) (w := w) (rel_copy h) (z := z)
  simp only [Tree.holds, hr, t1, t2, t3, t4, t5, t6, ok1, ok2, ok3, c1, c2, c3, beq_tx, sameCap, decide_true, Bool.and_self, Bool.and_true, Bool.true_and, true_and, Bool.not_true, Bool.not_false, Bool.false_eq_true, Bool.true_eq_false, false_implies, forall_const, and_true]
  exact ⟨fun c => ⟨c, lS _ rfl⟩, fun _ => ⟨fun c => ⟨c, lS _ rfl⟩, fun _ => ⟨fun _ => lS _ rfl, fun _ => ⟨fun c => ⟨c, lN _ rfl⟩, fun _ => ⟨fun _ => lN _ rfl, fun _ => ⟨fun _ => lN _ rfl, fun _ => ⟨fun _ => ⟨fun _ => lN _ rfl, fun hh => ⟨decide_eq_true (by have := of_decide_eq_false hh; omega), lN _ rfl⟩⟩, fun _ => lC _ rfl⟩⟩⟩⟩⟩⟩⟩

theorem sw_g_takes {y : Nt} {c s' l' : Int} {L : List ByteArray} {i : Nat} (h : relB y ⟨c, .g L, s', l'⟩ i = true) (hi : i < T.w.length) (hi' : i < 100) (k w : Int) :
    Takes Try.prog (tabN T) ra base 0 (codeOf 3 qA) (mkT 189 (Pw.ins ⟨⟨.slice (.ro 0 0 0 0) T.w.length none, y, ⟨c, .g L, s', l'⟩, (i : Nat)⟩, k, w⟩)) (hp 0 (Pl.blks ⟨.slice (.ro 0 0 0 0) T.w.length none, y, ⟨c, .g L, s', l'⟩, (i : Nat)⟩))
      fun z => PostL 189 (⟨⟨.slice (.ro 0 0 0 0) T.w.length none, y, ⟨c, .g L, s', l'⟩, (i : Nat)⟩, k, w⟩ : Pw) z (pwD T).alts := by
  have hE := tabN_plain T
  have hS := S2_ok (ra := ra) (base := base) hE
  refine takes_of_tree hE (wE hE hS) (f := 3) (.inr (by kernel_rfl)) (hp_below _) (sw_g T T.w.length y c s' l' i k w L) ?_
  have ok1 := rel_nt h (by omega)
  have ok2 := rel_rr h (by omega)
  have ok3 := rel_gone h (by omega) goneTx
  have hlen : L.length = y.n := rel_len h
  have hl' : l' = y.l ∧ 0 ≤ y.l ∧ y.l ≤ i := by
    obtain ⟨h1, h2, h3, h4, h5, h6, h7, h8, h9, h10, h11, h12⟩ := relB_iff.1 h
    exact ⟨h4, h11, h12⟩
  have ew : wr .i64 (l' + 1) = l' + 1 := many_in ⟨by omega, by omega⟩
  have c1 : decide (0 ≤ (i : Int)) = true := decide_eq_true (by omega)
  have c2 : decide ((i : Int) < (T.w.length : Nat)) = true := decide_eq_true (by omega)
  have c3 : decide (i < T.w.length) = true := decide_eq_true (by omega)
  have mk : ∀ {y' : Nt} {f' : Rf} {c2 s2 l2 : Int}, relB y' ⟨c2, f', s2, l2⟩ (i + 1) = true → ∀ z : State, z = (.normal, mkT 189 ((⟨.slice (.ro 0 0 0 0) T.w.length none, y, ⟨c, .g L, s', l'⟩, (i : Nat)⟩ : Pl).out), hp 0 (twoB y' ⟨c2, f', s2, l2⟩)) → PostL 189 (⟨⟨.slice (.ro 0 0 0 0) T.w.length none, y, ⟨c, .g L, s', l'⟩, (i : Nat)⟩, k, w⟩ : Pw) z (pwD T).alts := fun h z hz => sw_fin h hz
  have lN := mk (rel_same h)
  have lC := mk (rel_copy h)
  have hr := rel_room h
  cases hF : fullF c (.g L) with
  | true =>
    rw [hF] at hr
    have hr : y.room = false := hr
    have cF : decide (c ≤ (L.length : Nat)) = true := hF
    have lS := mk (rel_full h hr (T.t.getD i noTx))
    cases hH : hasF k (.g L) with
    | false =>
      obtain ⟨t1, t2, t3, t4, t5, t6⟩ := rel_no h (k := k) hH
      have hno : ∀ a b : Bool, decide (k < 0) = false → decide ((L.length : Int) ≤ k) = false → False := fun _ _ a b => by
        have a := of_decide_eq_false a
        have b := of_decide_eq_false b
        have : (decide (0 ≤ k) && decide (k < (L.length : Nat))) = false := hH
        rw [decide_eq_true (by omega), decide_eq_true (by omega)] at this
        cases this
      simp only [Tree.holds, hF, hH, hr, t1, t2, t3, t4, t5, t6, ok1, ok2, ok3, c1, c2, c3, cF, ew, beq_tx, sameCap, Nat.zero_add, Int.toNat_natCast, decide_true, Bool.and_self, Bool.and_true, Bool.true_and, true_and, Bool.not_true, Bool.not_false, Bool.false_eq_true, Bool.true_eq_false, false_implies, forall_const, and_true]
      exact ⟨fun c => ⟨c, lS _ rfl⟩, fun _ => ⟨fun c => ⟨c, lS _ rfl⟩, fun _ => ⟨fun _ => lS _ rfl, fun _ => ⟨fun c => ⟨c, lN _ rfl⟩, fun _ => ⟨fun _ => lN _ rfl, fun _ => ⟨fun _ => lN _ rfl, fun _ => ⟨fun _ => ⟨fun _ => lN _ rfl, fun a => ⟨fun _ => lN _ rfl, fun b => (hno true true a b).elim⟩⟩, fun _ => lC _ rfl⟩⟩⟩⟩⟩⟩⟩
    | true =>
      obtain ⟨m, rfl, hm, t1, t2, _, t3⟩ := rel_yes h (k := k) hH
      obtain ⟨t5, t6⟩ := t3 hr
      have k1 : decide ((m : Int) < 0) = false := decide_eq_false (by omega)
      have k2 : decide ((L.length : Int) ≤ (m : Int)) = false := decide_eq_false (by omega)
      cases hO : oneF (.g L) with
      | true =>
        have h1 : L.length = 1 := of_decide_eq_true hO
        have he : (Rf.e).list = L.eraseIdx m := by
          have : (L.eraseIdx m).length = L.length - 1 := List.length_eraseIdx_of_lt (by omega)
          exact (List.length_eq_zero_iff.1 (by omega)).symm
        have lD := mk (rel_del h hm (f' := .e) rfl he)
        have lL := mk (rel_lose h hm (f' := .e) rfl he)
        simp only [Tree.holds, hF, hH, hO, hr, t1, t2, t5, t6, ok1, ok2, ok3, c1, c2, c3, cF, k1, k2, ew, beq_tx, sameCap, Nat.zero_add, Int.toNat_natCast, decide_true, Bool.and_self, Bool.and_true, Bool.true_and, true_and, Bool.not_true, Bool.not_false, Bool.false_eq_true, Bool.true_eq_false, false_implies, forall_const, and_true]
        exact ⟨fun c => ⟨c, lS _ rfl⟩, fun _ => ⟨fun c => ⟨c, lS _ rfl⟩, fun _ => ⟨fun _ => lS _ rfl, fun _ => ⟨fun c => ⟨c, lD _ rfl⟩, fun _ => ⟨fun _ => lD _ rfl, fun _ => ⟨fun _ => lL _ rfl, fun _ => ⟨fun _ => lN _ rfl, fun _ => lC _ rfl⟩⟩⟩⟩⟩⟩⟩
      | false =>
        have h1 : ¬ L.length = 1 := of_decide_eq_false hO
        have hf : okRf (.g (L.eraseIdx m)) = true := decide_eq_true (by
          have : (L.eraseIdx m).length = L.length - 1 := List.length_eraseIdx_of_lt (by omega)
          omega)
        have lD := mk (rel_del h hm (f' := .g (L.eraseIdx m)) hf rfl)
        have lL := mk (rel_lose h hm (f' := .g (L.eraseIdx m)) hf rfl)
        simp only [Tree.holds, hF, hH, hO, hr, t1, t2, t5, t6, ok1, ok2, ok3, c1, c2, c3, cF, k1, k2, ew, beq_tx, sameCap, Nat.zero_add, Int.toNat_natCast, decide_true, Bool.and_self, Bool.and_true, Bool.true_and, true_and, Bool.not_true, Bool.not_false, Bool.false_eq_true, Bool.true_eq_false, false_implies, forall_const, and_true]
        exact ⟨fun c => ⟨c, lS _ rfl⟩, fun _ => ⟨fun c => ⟨c, lS _ rfl⟩, fun _ => ⟨fun _ => lS _ rfl, fun _ => ⟨fun c => ⟨c, lD _ rfl⟩, fun _ => ⟨fun _ => lD _ rfl, fun _ => ⟨fun _ => lL _ rfl, fun _ => ⟨fun _ => lN _ rfl, fun _ => lC _ rfl⟩⟩⟩⟩⟩⟩⟩
  | false =>
    rw [hF] at hr
    have hr : y.room = true := hr
    have cF : decide (c ≤ (L.length : Nat)) = false := hF
    have lS := mk (rel_send h hr (T.t.getD i noTx))
    cases hH : hasF k (.g L) with
    | false =>
      obtain ⟨t1, t2, t3, t4, t5, t6⟩ := rel_no h (k := k) hH
      have hno : ∀ a b : Bool, decide (k < 0) = false → decide ((L.length : Int) ≤ k) = false → False := fun _ _ a b => by
        have a := of_decide_eq_false a
        have b := of_decide_eq_false b
        have : (decide (0 ≤ k) && decide (k < (L.length : Nat))) = false := hH
        rw [decide_eq_true (by omega), decide_eq_true (by omega)] at this
        cases this
      simp only [Tree.holds, hF, hH, hr, t1, t2, t3, t4, t5, t6, ok1, ok2, ok3, c1, c2, c3, cF, ew, beq_tx, sameCap, Nat.zero_add, Int.toNat_natCast, decide_true, Bool.and_self, Bool.and_true, Bool.true_and, true_and, Bool.not_true, Bool.not_false, Bool.false_eq_true, Bool.true_eq_false, false_implies, forall_const, and_true]
      exact ⟨fun c => ⟨c, lS _ rfl⟩, fun _ => ⟨fun c => ⟨c, lS _ rfl⟩, fun _ => ⟨fun _ => lS _ rfl, fun _ => ⟨fun c => ⟨c, lN _ rfl⟩, fun _ => ⟨fun _ => lN _ rfl, fun _ => ⟨fun _ => lN _ rfl, fun _ => ⟨fun _ => ⟨fun _ => lN _ rfl, fun a => ⟨fun _ => lN _ rfl, fun b => (hno true true a b).elim⟩⟩, fun _ => lC _ rfl⟩⟩⟩⟩⟩⟩⟩
    | true =>
      obtain ⟨m, rfl, hm, t1, t2, t3, _⟩ := rel_yes h (k := k) hH
      obtain ⟨t5, t6⟩ := t3 hr
      have k1 : decide ((m : Int) < 0) = false := decide_eq_false (by omega)
      have k2 : decide ((L.length : Int) ≤ (m : Int)) = false := decide_eq_false (by omega)
      have k3 : decide (0 ≤ (m : Int)) = true := decide_eq_true (by omega)
      have k4 : decide ((m : Int) < (L.length : Nat)) = true := decide_eq_true (by omega)
      have k5 : decide (m < L.length) = true := decide_eq_true (by omega)
      have lT := mk (rel_send h hr ((Rf.g L).list.getD m noTx))
      cases hO : oneF (.g L) with
      | true =>
        have h1 : L.length = 1 := of_decide_eq_true hO
        have he : (Rf.e).list = L.eraseIdx m := by
          have : (L.eraseIdx m).length = L.length - 1 := List.length_eraseIdx_of_lt (by omega)
          exact (List.length_eq_zero_iff.1 (by omega)).symm
        have lD := mk (rel_del h hm (f' := .e) rfl he)
        have lL := mk (rel_lose h hm (f' := .e) rfl he)
        simp only [Tree.holds, hF, hH, hO, hr, t1, t2, t5, t6, ok1, ok2, ok3, c1, c2, c3, cF, k1, k2, k3, k4, k5, ew, beq_tx, sameCap, Nat.zero_add, Int.toNat_natCast, decide_true, Bool.and_self, Bool.and_true, Bool.true_and, true_and, Bool.not_true, Bool.not_false, Bool.false_eq_true, Bool.true_eq_false, false_implies, forall_const, and_true]
        exact ⟨fun c => ⟨c, lS _ rfl⟩, fun _ => ⟨fun c => ⟨c, lS _ rfl⟩, fun _ => ⟨fun _ => lS _ rfl, fun _ => ⟨fun c => ⟨c, lD _ rfl⟩, fun _ => ⟨fun _ => lD _ rfl, fun _ => ⟨fun _ => lL _ rfl, fun _ => ⟨fun _ => lT _ rfl, fun _ => lC _ rfl⟩⟩⟩⟩⟩⟩⟩
      | false =>
        have h1 : ¬ L.length = 1 := of_decide_eq_false hO
        have hf : okRf (.g (L.eraseIdx m)) = true := decide_eq_true (by
          have : (L.eraseIdx m).length = L.length - 1 := List.length_eraseIdx_of_lt (by omega)
          omega)
        have lD := mk (rel_del h hm (f' := .g (L.eraseIdx m)) hf rfl)
        have lL := mk (rel_lose h hm (f' := .g (L.eraseIdx m)) hf rfl)
        simp only [Tree.holds, hF, hH, hO, hr, t1, t2, t5, t6, ok1, ok2, ok3, c1, c2, c3, cF, k1, k2, k3, k4, k5, ew, beq_tx, sameCap, Nat.zero_add, Int.toNat_natCast, decide_true, Bool.and_self, Bool.and_true, Bool.true_and, true_and, Bool.not_true, Bool.not_false, Bool.false_eq_true, Bool.true_eq_false, false_implies, forall_const, and_true]
        exact ⟨fun c => ⟨c, lS _ rfl⟩, fun _ => ⟨fun c => ⟨c, lS _ rfl⟩, fun _ => ⟨fun _ => lS _ rfl, fun _ => ⟨fun c => ⟨c, lD _ rfl⟩, fun _ => ⟨fun _ => lD _ rfl, fun _ => ⟨fun _ => lL _ rfl, fun _ => ⟨fun _ => lT _ rfl, fun _ => lC _ rfl⟩⟩⟩⟩⟩⟩⟩

theorem pw_takes (x : Pw) (hx : (pwD T).pre x = true) : Takes Try.prog (tabN T) ra base 0 (codeOf 3 qA) (mkT 189 ((pwD T).ins x)) (hp 0 ((pwD T).blks x)) fun z => PostL 189 x z (pwD T).alts := by
  obtain ⟨⟨V, y, ⟨c, f, s', l'⟩, i⟩, k, w⟩ := x
  simp only [pwD, pwB, Bool.and_eq_true, decide_eq_true_eq] at hx
  obtain ⟨h1, h2, h3, h4, h5, h6⟩ := hx
  obtain ⟨m, rfl⟩ : ∃ m : Nat, i = m := ⟨i.toNat, by omega⟩
  rw [Int.toNat_natCast] at h6
  rcases okV_cases h1 with ⟨_, h0⟩ | rfl
  · omega
  · cases f with
    | n => exact sw_n_takes h6 (by omega) (by omega) k w
    | e => exact sw_e_takes h6 (by omega) (by omega) k w
    | g L => exact sw_g_takes h6 (by omega) (by omega) k w
theorem TA2_ok (T : Tb) : ToldsOK Try.prog (tabN T) ra base 0 (TA2 T) := sumT_ok noT_ok rfl (toldR_ok (c := codeOf 3 qA) (by kernel_rfl) pw_takes)
end
end Go.Proofs.Ytohdkgdaccoohaa
