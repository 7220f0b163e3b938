/- align: the functions keep their contracts. -/
import Derived.Test.YtbdjcekekhgnkaaP24a
set_option linter.unusedSimpArgs false
namespace Go.Proofs.Ytbdjcekekhgnkaa
open Ab

section
variable {E : Nat → Nat → Seg} {ra : Nat → Nat → Nat × Nat} {base : Nat}

theorem wE (hE : Plain E) {S : Sums} (hS : SumsOK Try.prog E ra base S) : ExecOK Try.prog E ra base (W E S noL) := W_ok hS noL_ok

theorem phase_gives (hE : Plain E) (x : Al) (h : okAl x = true) : Gives Try.prog E ra base 1 17 [.ptr (.own 0 0 0 0)] (hp 0 [x.blk]) fun v h' => v = .int .i64 (phaseL x.p x.q) ∧ h' = hp 0 [x.blk] := by
  obtain ⟨_, _, h3, h4, h5, h6⟩ := okAl_facts h
  have hS := S1_ok (ra := ra) (base := base) hE
  refine (gives_of_tree hE (wE hE hS) hS (hp_below _) (phase_call E x) ?_).2
  simp only [Tree.holds, decide_true, Bool.and_self, Bool.and_true, Bool.true_and, true_and, h, h3, h4, h5, h6]
  refine ⟨fun a => ⟨fun b => ⟨_, rfl, ?_, rfl⟩, fun b => ⟨fun c => ⟨_, rfl, ?_, rfl⟩, fun c => ⟨fun d => ⟨_, rfl, ?_, rfl⟩, fun d => ⟨_, rfl, ?_, rfl⟩⟩⟩⟩, fun a => ⟨fun c => ⟨_, rfl, ?_, rfl⟩, fun c => ⟨fun d => ⟨_, rfl, ?_, rfl⟩, fun d => ⟨_, rfl, ?_, rfl⟩⟩⟩⟩
  · simp [phaseL, a, b]
  · simp only [Bool.not_eq_true'] at c; simp [phaseL, a, b, c]
  · simp only [Bool.not_eq_true', Bool.not_eq_false'] at c d; simp [phaseL, a, b, c, d]
  · simp only [Bool.not_eq_true', Bool.not_eq_false'] at c d; simp [phaseL, a, b, c, d]
  · simp only [Bool.not_eq_true'] at c; simp [phaseL, a, c]
  · simp only [Bool.not_eq_true', Bool.not_eq_false'] at c d; simp [phaseL, a, c, d]
  · simp only [Bool.not_eq_true', Bool.not_eq_false'] at c d; simp [phaseL, a, c, d]

theorem cnt_zero : ∀ p : List Bool, cnt p = 0 ↔ allB p false = true
  | [] => by simp [cnt, allB]
  | b :: p => by
    have := cnt_le p
    have ih := cnt_zero p
    cases b
    · simp only [cnt, allB, List.all_cons] at ih ⊢
      simp [ih]
    · simp only [cnt, allB, List.all_cons]
      simp; omega
theorem cnt_full : ∀ p : List Bool, cnt p < p.length ↔ allB p true = false
  | [] => by simp [cnt, allB]
  | b :: p => by
    have := cnt_le p
    have ih := cnt_full p
    cases b
    · simp only [cnt, allB, List.all_cons, List.length_cons]
      simp; omega
    · simp only [cnt, allB, List.all_cons, List.length_cons] at ih ⊢
      simp only [if_true, beq_self_eq_true, Bool.true_and, ← ih]
      omega

theorem okRf_facts {r : Rf} (h : okRf r = true) : r.p.length ≤ 16 ∧ r.q.length ≤ 16 ∧ in64 r.l := by
  simp only [okRf, ok64, Bool.and_eq_true, decide_eq_true_eq] at h
  exact ⟨h.1, h.2.1, h.2.2⟩

theorem rphase_gives (hE : Plain E) (r : Rf) (h : okRf r = true) : Gives Try.prog E ra base 3 25 [.ptr (.own 0 0 0 0)] (hp 0 (rphaseD.blks r)) fun v h' => v = .int .i64 (phaseL r.p r.q) ∧ h' = hp 0 (rphaseD.blks r) := by
  obtain ⟨h1, h2, _⟩ := okRf_facts h
  have hS := S1_ok (ra := ra) (base := base) hE
  refine (gives_of_tree hE (wE hE hS) hS (hp_below _) (rphase_call E r) ?_).2
  have e1 : r.p.length ≤ 1000 := by omega
  have e2 : r.q.length ≤ 1000 := by omega
  have c1 := cnt_le r.p
  have c2 := cnt_le r.q
  have hw : wr .i64 (cnt r.p + cnt r.q) = cnt r.p + cnt r.q := wr_in ⟨by omega, by omega⟩
  have z1 := cnt_zero r.p
  have z2 := cnt_zero r.q
  have f1 := cnt_full r.p
  have f2 := cnt_full r.q
  simp only [Tree.holds, decide_true, Bool.and_self, Bool.and_true, Bool.true_and, true_and, e1, e2, hw, decide_eq_true_eq, decide_eq_false_iff_not]
  refine ⟨fun a => ⟨_, rfl, ?_, rfl⟩, fun a => ⟨fun b => ⟨_, rfl, ?_, rfl⟩, fun b => ⟨fun c => ⟨_, rfl, ?_, rfl⟩, fun c => ⟨_, rfl, ?_, rfl⟩⟩⟩⟩
  · have a1 := z1.1 (by omega)
    have a2 := z2.1 (by omega)
    simp [phaseL, a1, a2]
  · have hn : (allB r.p false && allB r.q false) = false := by
      cases ha : allB r.p false <;> cases hb : allB r.q false <;> first | rfl | (exfalso; have := z1.2 ha; have := z2.2 hb; omega)
    simp [phaseL, hn, f1.1 b]
  · have hn : (allB r.p false && allB r.q false) = false := by
      cases ha : allB r.p false <;> cases hb : allB r.q false <;> first | rfl | (exfalso; have := z1.2 ha; have := z2.2 hb; omega)
    have hp : allB r.p true = true := by
      cases ha : allB r.p true with
      | true => rfl
      | false => exact absurd (f1.2 ha) b
    simp only [phaseL, hn, hp, f2.1 c]; rfl
  · have hn : (allB r.p false && allB r.q false) = false := by
      cases ha : allB r.p false <;> cases hb : allB r.q false <;> first | rfl | (exfalso; have := z1.2 ha; have := z2.2 hb; omega)
    have hp : allB r.p true = true := by
      cases ha : allB r.p true with
      | true => rfl
      | false => exact absurd (f1.2 ha) b
    have hq : allB r.q true = true := by
      cases ha : allB r.q true with
      | true => rfl
      | false => exact absurd (f2.2 ha) c
    simp only [phaseL, hn, hp, hq]; rfl

theorem p_len {x : Al} (h : okAl x = true) : (x.p.length : Int) = x.n ∧ (x.q.length : Int) = x.m := by
  obtain ⟨h1, h2, h3, h4, h5, h6⟩ := okAl_facts h
  constructor
  · rw [Al.p, List.length_take]; omega
  · rw [Al.q, List.length_take]; omega

theorem getD_take {c : List Bool} {n i : Nat} (h : i < n) : (c.take n).getD i false = c.getD i false := by
  simp [List.getD_eq_getElem?_getD, List.getElem?_take, h]

theorem isB_p {x : Al} (h : okAl x = true) (i : Int) : isB x.p i = (decide (0 ≤ i) && (decide (i < x.n) && x.c.getD i.toNat false)) := by
  obtain ⟨h1, h2, h3, h4, h5, h6⟩ := okAl_facts h
  rw [isB, (p_len h).1]
  by_cases a : 0 ≤ i
  · by_cases b : i < x.n
    · rw [Al.p, getD_take (by omega)]
    · simp [b]
  · simp [a]
theorem isB_q {x : Al} (h : okAl x = true) (i : Int) : isB x.q i = (decide (0 ≤ i) && (decide (i < x.m) && x.d.getD i.toNat false)) := by
  obtain ⟨h1, h2, h3, h4, h5, h6⟩ := okAl_facts h
  rw [isB, (p_len h).2]
  by_cases a : 0 ≤ i
  · by_cases b : i < x.m
    · rw [Al.q, getD_take (by omega)]
    · simp [b]
  · simp [a]

theorem blocked_gives (hE : Plain E) (x : Al) (i : Int) (h : okAl x = true) : Gives Try.prog E ra base 1 19 [.ptr (.own 0 0 0 0), .int .i64 i] (hp 0 [x.blk]) fun v h' => v = .bool (isB x.p i) ∧ h' = hp 0 [x.blk] := by
  obtain ⟨h1, h2, h3, h4, h5, h6⟩ := okAl_facts h
  refine (gives_of_tree hE (W_ok sumNone_ok noL_ok) sumNone_ok (hp_below _) (blocked_call E x i) ?_).2
  rw [isB_p h]
  simp only [Tree.holds, decide_eq_true_eq, decide_eq_false_iff_not, Bool.and_eq_true]
  exact ⟨fun a => ⟨fun b => ⟨⟨a, by omega⟩, by omega, _, rfl, by simp [a, b], rfl⟩, fun b => ⟨_, rfl, by simp [b], rfl⟩⟩, fun a => ⟨_, rfl, by simp [a], rfl⟩⟩
theorem besided_gives (hE : Plain E) (x : Al) (i : Int) (h : okAl x = true) : Gives Try.prog E ra base 1 20 [.ptr (.own 0 0 0 0), .int .i64 i] (hp 0 [x.blk]) fun v h' => v = .bool (isB x.q i) ∧ h' = hp 0 [x.blk] := by
  obtain ⟨h1, h2, h3, h4, h5, h6⟩ := okAl_facts h
  refine (gives_of_tree hE (W_ok sumNone_ok noL_ok) sumNone_ok (hp_below _) (besided_call E x i) ?_).2
  rw [isB_q h]
  simp only [Tree.holds, decide_eq_true_eq, decide_eq_false_iff_not, Bool.and_eq_true]
  exact ⟨fun a => ⟨fun b => ⟨⟨a, by omega⟩, by omega, _, rfl, by simp [a, b], rfl⟩, fun b => ⟨_, rfl, by simp [b], rfl⟩⟩, fun a => ⟨_, rfl, by simp [a], rfl⟩⟩

theorem S2_ok (hE : Plain E) : SumsOK Try.prog E ra base S2 := by
  refine sumG_deal hE (sumG_deal hE (sumG_deal hE (sumG_deal hE (sumG_deal hE (S1_ok hE) ⟨_, Try.func17, by kernel_rfl⟩ fun x hx => phase_gives hE x hx) ⟨_, Try.func25, by kernel_rfl⟩ fun r hr => rphase_gives hE r hr) ⟨_, Try.func18, by kernel_rfl⟩ fun x hx => ?_) ⟨_, Try.func19, by kernel_rfl⟩ fun y hy => blocked_gives hE y.x y.i hy) ⟨_, Try.func20, by kernel_rfl⟩ fun y hy => besided_gives hE y.x y.i hy
  exact (gives_of_tree hE (W_ok sumNone_ok noL_ok) sumNone_ok (hp_below _) (last_call E x) ⟨_, rfl, rfl, rfl⟩).2

theorem come_gives (hE : Plain E) (x : Al) (i k : Int) (h : okAl x = true) : Gives Try.prog E ra base 1 8 [.ptr (.own 0 0 0 0), .int .i64 i, .int .i64 k] (hp 0 [x.blk]) fun v h' => v = .int .i64 (comeE x.p x.l i k) ∧ h' = hp 0 [(x.come i k).blk] := by
  obtain ⟨h1, h2, h3, h4, h5, h6⟩ := okAl_facts h
  refine (gives_of_tree hE (W_ok sumNone_ok noL_ok) sumNone_ok (hp_below _) (come_call E x i k) ?_).2
  have hl := (p_len h).1
  have key : ∀ e : Int, comeE x.p x.l i k = e → e ≠ 0 → (x.come i k).blk = x.blk := fun e he hn => by
    have : x.come i k = x := by rw [Al.come, he, putB, if_neg hn]
    rw [this]
  simp only [Tree.holds, decide_eq_true_eq, decide_eq_false_iff_not, Bool.and_eq_true, Bool.not_eq_true', Bool.not_eq_false']
  refine ⟨fun a => ⟨fun b => ?_, fun b => ⟨⟨a, by omega⟩, by omega, fun c => ?_, fun c => ⟨fun d => ?_, fun d => ⟨⟨a, by omega⟩, by omega, ?_⟩⟩⟩⟩, fun a => ?_⟩
  · have he : comeE x.p x.l i k = 2 := by rw [comeE, if_pos (by omega)]
    exact ⟨_, rfl, by rw [he], by rw [key 2 he (by decide)]; rfl⟩
  · have he : comeE x.p x.l i k = 19 := by rw [comeE, if_neg (by omega), Al.p, getD_take (by omega), if_pos c]
    exact ⟨_, rfl, by rw [he], by rw [key 19 he (by decide)]; rfl⟩
  · have he : comeE x.p x.l i k = 7 := by rw [comeE, if_neg (by omega), Al.p, getD_take (by omega), c, if_neg (by decide), if_pos d]
    exact ⟨_, rfl, by rw [he], by rw [key 7 he (by decide)]; rfl⟩
  · have he : comeE x.p x.l i k = 0 := by rw [comeE, if_neg (by omega), Al.p, getD_take (by omega), c, if_neg (by decide), if_neg (fun hh => hh d)]
    refine ⟨_, rfl, by rw [he], ?_⟩
    have : x.come i k = { x with c := x.c.set i.toNat true } := by rw [Al.come, he, putB, if_pos rfl]
    rw [this]; rfl
  · have he : comeE x.p x.l i k = 2 := by rw [comeE, if_pos (by omega)]
    exact ⟨_, rfl, by rw [he], by rw [key 2 he (by decide)]; rfl⟩

theorem beside_gives (hE : Plain E) (x : Al) (i k : Int) (h : okAl x = true) : Gives Try.prog E ra base 1 10 [.ptr (.own 0 0 0 0), .int .i64 i, .int .i64 k] (hp 0 [x.blk]) fun v h' => v = .int .i64 (comeE x.q x.l i k) ∧ h' = hp 0 [(x.beside i k).blk] := by
  obtain ⟨h1, h2, h3, h4, h5, h6⟩ := okAl_facts h
  refine (gives_of_tree hE (W_ok sumNone_ok noL_ok) sumNone_ok (hp_below _) (beside_call E x i k) ?_).2
  have hl := (p_len h).2
  have key : ∀ e : Int, comeE x.q x.l i k = e → e ≠ 0 → (x.beside i k).blk = x.blk := fun e he hn => by
    have : x.beside i k = x := by rw [Al.beside, he, putB, if_neg hn]
    rw [this]
  simp only [Tree.holds, decide_eq_true_eq, decide_eq_false_iff_not, Bool.and_eq_true, Bool.not_eq_true', Bool.not_eq_false']
  refine ⟨fun a => ⟨fun b => ?_, fun b => ⟨⟨a, by omega⟩, by omega, fun c => ?_, fun c => ⟨fun d => ?_, fun d => ⟨⟨a, by omega⟩, by omega, ?_⟩⟩⟩⟩, fun a => ?_⟩
  · have he : comeE x.q x.l i k = 2 := by rw [comeE, if_pos (by omega)]
    exact ⟨_, rfl, by rw [he], by rw [key 2 he (by decide)]; rfl⟩
  · have he : comeE x.q x.l i k = 19 := by rw [comeE, if_neg (by omega), Al.q, getD_take (by omega), if_pos c]
    exact ⟨_, rfl, by rw [he], by rw [key 19 he (by decide)]; rfl⟩
  · have he : comeE x.q x.l i k = 7 := by rw [comeE, if_neg (by omega), Al.q, getD_take (by omega), c, if_neg (by decide), if_pos d]
    exact ⟨_, rfl, by rw [he], by rw [key 7 he (by decide)]; rfl⟩
  · have he : comeE x.q x.l i k = 0 := by rw [comeE, if_neg (by omega), Al.q, getD_take (by omega), c, if_neg (by decide), if_neg (fun hh => hh d)]
    refine ⟨_, rfl, by rw [he], ?_⟩
    have : x.beside i k = { x with d := x.d.set i.toNat true } := by rw [Al.beside, he, putB, if_pos rfl]
    rw [this]; rfl
  · have he : comeE x.q x.l i k = 2 := by rw [comeE, if_pos (by omega)]
    exact ⟨_, rfl, by rw [he], by rw [key 2 he (by decide)]; rfl⟩

theorem wr_turn {k l : Int} (hk : in64 k) (hl : in64 l) : k = wr .i64 (l + 1) ↔ wr .i64 (k - 1) = l := by
  obtain ⟨k1, k2⟩ := hk
  obtain ⟨l1, l2⟩ := hl
  show k = (l + 1 + 9223372036854775808) % 18446744073709551616 - 9223372036854775808 ↔ (k - 1 + 9223372036854775808) % 18446744073709551616 - 9223372036854775808 = l
  omega

theorem putB_len (p : List Bool) (e i : Int) : (putB p e i).length = p.length := by
  unfold putB; split <;> simp

theorem rcome_gives (hE : Plain E) (r : Rf) (i k : Int) (h : okRf r = true) (hk : in64 k) : Gives Try.prog E ra base 3 9 (rcomeD.args ⟨r, i, k⟩) (hp 0 (rcomeD.blks ⟨r, i, k⟩)) fun v h' => v = .int .i64 (comeE r.p r.l i k) ∧ h' = hp 0 (rcomeD.blks' ⟨r, i, k⟩) := by
  obtain ⟨h1, h2, h3⟩ := okRf_facts h
  refine (gives_of_tree hE (W_ok sumNone_ok noL_ok) sumNone_ok (hp_below _) (rcome_call E r i k) ?_).2
  have hT := wr_turn hk h3
  have key : ∀ e : Int, comeE r.p r.l i k = e → e ≠ 0 → r.come i k = r := fun e he hn => by rw [Rf.come, he, putB, if_neg hn]
  simp only [Tree.holds, decide_eq_true_eq, decide_eq_false_iff_not, Bool.and_eq_true, Bool.not_eq_true', Bool.not_eq_false', Nat.zero_add]
  refine ⟨fun a => ?_, fun a => ⟨fun b => ?_, fun b => ⟨⟨by omega, by omega⟩, by omega, fun c => ?_, fun c => ⟨fun d => ?_, fun d => ⟨⟨by omega, by omega⟩, by omega, ?_⟩⟩⟩⟩⟩
  · have he : comeE r.p r.l i k = 2 := by rw [comeE, if_pos (by omega)]
    exact ⟨_, rfl, by rw [he], by simp only [rcomeD, key 2 he (by decide)]; rfl⟩
  · have he : comeE r.p r.l i k = 2 := by rw [comeE, if_pos (by omega)]
    exact ⟨_, rfl, by rw [he], by simp only [rcomeD, key 2 he (by decide)]; rfl⟩
  · have he : comeE r.p r.l i k = 19 := by rw [comeE, if_neg (by omega), if_pos c]
    exact ⟨_, rfl, by rw [he], by simp only [rcomeD, key 19 he (by decide)]; rfl⟩
  · have he : comeE r.p r.l i k = 7 := by rw [comeE, if_neg (by omega), c, if_neg (by decide), if_pos (fun e => d (hT.2 e))]
    exact ⟨_, rfl, by rw [he], by simp only [rcomeD, key 7 he (by decide)]; rfl⟩
  · have he : comeE r.p r.l i k = 0 := by rw [comeE, if_neg (by omega), c, if_neg (by decide), if_neg (fun hh => hh (hT.1 d))]
    have hc : r.come i k = ⟨r.p.set i.toNat true, r.q, r.l⟩ := by rw [Rf.come, he, putB, if_pos rfl]
    refine ⟨_, rfl, by rw [he], ?_⟩
    simp only [rcomeD, hc, Rf.b0, bl, List.length_set]; rfl

theorem rbeside_gives (hE : Plain E) (r : Rf) (i k : Int) (h : okRf r = true) (hk : in64 k) : Gives Try.prog E ra base 3 11 (rbesideD.args ⟨r, i, k⟩) (hp 0 (rbesideD.blks ⟨r, i, k⟩)) fun v h' => v = .int .i64 (comeE r.q r.l i k) ∧ h' = hp 0 (rbesideD.blks' ⟨r, i, k⟩) := by
  obtain ⟨h1, h2, h3⟩ := okRf_facts h
  refine (gives_of_tree hE (W_ok sumNone_ok noL_ok) sumNone_ok (hp_below _) (rbeside_call E r i k) ?_).2
  have hT := wr_turn hk h3
  have key : ∀ e : Int, comeE r.q r.l i k = e → e ≠ 0 → r.beside i k = r := fun e he hn => by rw [Rf.beside, he, putB, if_neg hn]
  simp only [Tree.holds, decide_eq_true_eq, decide_eq_false_iff_not, Bool.and_eq_true, Bool.not_eq_true', Bool.not_eq_false', Nat.zero_add]
  refine ⟨fun a => ?_, fun a => ⟨fun b => ?_, fun b => ⟨⟨by omega, by omega⟩, by omega, fun c => ?_, fun c => ⟨fun d => ?_, fun d => ⟨⟨by omega, by omega⟩, by omega, ?_⟩⟩⟩⟩⟩
  · have he : comeE r.q r.l i k = 2 := by rw [comeE, if_pos (by omega)]
    exact ⟨_, rfl, by rw [he], by simp only [rbesideD, key 2 he (by decide)]; rfl⟩
  · have he : comeE r.q r.l i k = 2 := by rw [comeE, if_pos (by omega)]
    exact ⟨_, rfl, by rw [he], by simp only [rbesideD, key 2 he (by decide)]; rfl⟩
  · have he : comeE r.q r.l i k = 19 := by rw [comeE, if_neg (by omega), if_pos c]
    exact ⟨_, rfl, by rw [he], by simp only [rbesideD, key 19 he (by decide)]; rfl⟩
  · have he : comeE r.q r.l i k = 7 := by rw [comeE, if_neg (by omega), c, if_neg (by decide), if_pos (fun e => d (hT.2 e))]
    exact ⟨_, rfl, by rw [he], by simp only [rbesideD, key 7 he (by decide)]; rfl⟩
  · have he : comeE r.q r.l i k = 0 := by rw [comeE, if_neg (by omega), c, if_neg (by decide), if_neg (fun hh => hh (hT.1 d))]
    have hc : r.beside i k = ⟨r.p, r.q.set i.toNat true, r.l⟩ := by rw [Rf.beside, he, putB, if_pos rfl]
    refine ⟨_, rfl, by rw [he], ?_⟩
    simp only [rbesideD, hc, Rf.b0, bl, List.length_set]; rfl

/-- sixteen cells, all laid anew -/
theorem set16 {c : List Bool} (h : c.length = 16) : (((((((((((((((c.set 0 false).set 1 false).set 2 false).set 3 false).set 4 false).set 5 false).set 6 false).set 7 false).set 8 false).set 9 false).set 10 false).set 11 false).set 12 false).set 13 false).set 14 false).set 15 false = List.replicate 16 false := by
  match c, h with
  | [_, _, _, _, _, _, _, _, _, _, _, _, _, _, _, _], _ => rfl

theorem done_gives (hE : Plain E) (x : Al) (h : okAl x = true) : Gives Try.prog E ra base 1 12 [.ptr (.own 0 0 0 0)] (hp 0 [x.blk]) fun v h' => v = .int .i64 (if phaseL x.p x.q = 3 then 0 else 7) ∧ h' = hp 0 [x.done.blk] := by
  obtain ⟨h1, h2, h3, h4, h5, h6⟩ := okAl_facts h
  have hS := S2_ok (ra := ra) (base := base) hE
  refine (gives_of_tree hE (wE hE hS) hS (hp_below _) (done_call E x) ?_).2
  simp only [Tree.holds, decide_true, Bool.and_self, Bool.and_true, Bool.true_and, true_and, h1, h2, h3, h4, h5, h6, Bool.not_eq_true', Bool.not_eq_false', decide_eq_true_eq, decide_eq_false_iff_not, set16 h1, set16 h2]
  refine ⟨fun a => ⟨_, rfl, by rw [if_neg a], ?_⟩, fun a => ⟨_, rfl, by rw [if_pos a], ?_⟩⟩
  · rw [Al.done, if_neg a]; rfl
  · rw [Al.done, if_pos a]; rfl

theorem rdone_gives (hE : Plain E) (r : Rf) (h : okRf r = true) : (isDone r = true → Gives Try.prog E ra base 3 13 [.ptr (.own 0 0 0 0)] (hp 0 (rdone1.blks r)) fun v h' => v = .int .i64 0 ∧ h' = hp 0 (rdone1.blks' r)) ∧
    (isDone r = false → Gives Try.prog E ra base 3 13 [.ptr (.own 0 0 0 0)] (hp 0 (rdone2.blks r)) fun v h' => v = .int .i64 7 ∧ h' = hp 0 (rdone2.blks' r)) := by
  obtain ⟨h1, h2, h3⟩ := okRf_facts h
  have hS := S2_ok (ra := ra) (base := base) hE
  have l1 : (r.p.length : Int) ≤ 1099511627776 := by omega
  have l2 : (r.q.length : Int) ≤ 1099511627776 := by omega
  constructor
  · intro hd
    simp only [isDone, decide_eq_true_eq] at hd
    refine (gives_of_tree hE (wE hE hS) hS (hp_below _) (rdone_call E r) ?_).2
    simp only [Tree.holds, decide_true, Bool.and_self, Bool.and_true, Bool.true_and, true_and, h, hd, l1, l2, Bool.not_true, Int.le_refl]
    refine ⟨fun a => (by cases a), fun _ => ⟨_, rfl, rfl, ?_⟩⟩
    simp only [rdone1, Rf.done, Rf.b0, bl, List.length_replicate]; rfl
  · intro hd
    simp only [isDone, decide_eq_false_iff_not] at hd
    refine (gives_of_tree hE (wE hE hS) hS (hp_below _) (rdone_call E r) ?_).2
    simp only [Tree.holds, decide_true, Bool.and_self, Bool.and_true, Bool.true_and, true_and, h, hd, decide_false, Bool.not_false]
    exact ⟨fun _ => ⟨_, rfl, rfl, rfl⟩, fun a => (by cases a)⟩

theorem relB_facts {x : Al} {r : Rf} (h : relB x r = true) : okAl x = true ∧ okRf r = true ∧ x.n = r.p.length ∧ x.m = r.q.length ∧ x.p = r.p ∧ x.q = r.q ∧ x.l = r.l := by
  simp only [relB, Bool.and_eq_true, decide_eq_true_eq] at h
  exact ⟨h.1, h.2.1, h.2.2.1, h.2.2.2.1, h.2.2.2.2.1, h.2.2.2.2.2.1, h.2.2.2.2.2.2⟩

theorem isB_in {p : List Bool} {i : Int} (a : 0 ≤ i) (b : i < p.length) : isB p i = p.getD i.toNat false := by simp [isB, a, b]
theorem isB_out {p : List Bool} {i : Int} (b : ¬ (0 ≤ i ∧ i < p.length)) : isB p i = false := by
  rw [isB]
  by_cases a : 0 ≤ i
  · have : ¬ i < p.length := fun h => b ⟨a, h⟩
    simp [this]
  · simp [a]

theorem alike_round' (hE : Plain E) (y : Both) (h : relB y.x y.r = true) {i : Nat} (hi : i ≤ 18) : Takes Try.prog E ra base 4 (codeOf 14 [false, false, true, false, true, true]) (mkT 74 [(0, .ptr (.own 0 0 0 0)), (1, .ptr (.own 1 0 0 0)), (5, .int .i64 ((i : Int) - 1))]) (hp 0 (both y)) fun z =>
    (i < 18 ∧ z = (.normal, mkT 74 [(0, .ptr (.own 0 0 0 0)), (1, .ptr (.own 1 0 0 0)), (5, .int .i64 (((i + 1 : Nat) : Int) - 1))], hp 0 (both y))) ∨ (i = 18 ∧ z = (.exit 0, mkT 74 [], hp 0 (both y))) := by
  obtain ⟨x, r⟩ := y
  obtain ⟨h1, h2, h3, h4, h5, h6, h7⟩ := relB_facts h
  simp only at h1 h2 h3 h4 h5 h6 h7
  have hS := S2_ok (ra := ra) (base := base) hE
  refine takes_of_tree hE (wE hE hS) (f := 14) (.inr (by kernel_rfl)) (hp_below _) (alike_round E ((i : Int) - 1) x r) ?_
  have hw : wr .i64 ((i : Int) - 1 + 1) = ((i + 1 : Nat) : Int) - 1 := by rw [wr_in ⟨by omega, by omega⟩]; omega
  rw [h5, h6, hw]
  have hsame : ∀ p : List Bool, ∀ k : Int, 0 ≤ k → k < p.length → isB p k = p.getD (0 + k.toNat) false := fun p k a b => by rw [Nat.zero_add]; exact isB_in a b
  simp only [Tree.holds, decide_true, Bool.and_self, Bool.and_true, Bool.true_and, true_and, h1, Bool.not_eq_true', Bool.not_eq_false', decide_eq_true_eq, decide_eq_false_iff_not, Bool.and_eq_true]
  refine ⟨fun k1 => ⟨fun k2 => ⟨fun k3 => ⟨⟨k2, k3⟩, by omega, fun k4 => absurd (hsame _ _ k2 k3) k4, fun _ => ⟨k2, fun k5 => ⟨⟨k2, k5⟩, by omega, fun k6 => absurd (hsame _ _ k2 k5) k6, fun _ => ?_⟩, fun k5 => ⟨fun k6 => absurd (isB_out (fun hh => k5 hh.2)) k6, fun _ => ?_⟩⟩⟩,
    fun k3 => ⟨fun k4 => absurd (isB_out (fun hh => k3 hh.2)) k4, fun _ => ⟨k2, fun k5 => ⟨⟨k2, k5⟩, by omega, fun k6 => absurd (hsame _ _ k2 k5) k6, fun _ => ?_⟩, fun k5 => ⟨fun k6 => absurd (isB_out (fun hh => k5 hh.2)) k6, fun _ => ?_⟩⟩⟩⟩,
    fun k2 => ⟨fun k4 => absurd (isB_out (fun hh => k2 hh.1)) k4, fun _ => ⟨k2, fun k6 => absurd (isB_out (fun hh => k2 hh.1)) k6, fun _ => ?_⟩⟩⟩, fun k1 => ?_⟩
  · exact .inl ⟨by omega, rfl⟩
  · exact .inl ⟨by omega, rfl⟩
  · exact .inl ⟨by omega, rfl⟩
  · exact .inl ⟨by omega, rfl⟩
  · exact .inl ⟨by omega, rfl⟩
  · exact .inr ⟨by omega, rfl⟩

theorem alike_gives (hE : Plain E) (y : Both) (h : relB y.x y.r = true) : Gives Try.prog E ra base 4 14 [.ptr (.own 0 0 0 0), .ptr (.own 1 0 0 0)] (hp 0 (both y)) fun v h' => v = .bool true ∧ h' = hp 0 (both y) := by
  have hS := S2_ok (ra := ra) (base := base) hE
  have hL : LoopsOK Try.prog E ra base L14 := by
    refine sumLG_deal hE noL_ok rfl (c := codeOf 14 [false, false, true, false, true, true]) (by kernel_rfl) (fun _ => rfl) fun y hy => ?_
    refine takes_loop (fun j ts h => ∃ i : Nat, i ≤ 18 ∧ j = 18 - i + 1 ∧ ts = mkT 74 [(0, .ptr (.own 0 0 0 0)), (1, .ptr (.own 1 0 0 0)), (5, .int .i64 ((i : Int) - 1))] ∧ h = hp 0 (both y)) (fun ts h => by rintro ⟨i, _, h, _⟩; omega) (fun j ts h' => ?_) (j := 19) ⟨0, Nat.zero_le _, rfl, rfl, rfl⟩
    rintro ⟨i, k1, k2, rfl, rfl⟩
    refine (alike_round' hE y hy k1).mono ?_
    rintro z (⟨g1, rfl⟩ | ⟨g1, rfl⟩)
    · exact ⟨i + 1, by omega, by omega, rfl, rfl⟩
    · rfl
  obtain ⟨x, r⟩ := y
  obtain ⟨h1, h2, h3, h4, h5, h6, h7⟩ := relB_facts h
  obtain ⟨a1, a2, a3, a4, a5, a6⟩ := okAl_facts h1
  simp only at h h2 h5 h6 h7 a1 a2 a3 a4 a5 a6
  refine (gives_of_tree hE (W_ok hS hL) hS (hp_below _) (alike_call E x r) ?_).2
  simp only [Tree.holds, decide_true, Bool.and_self, Bool.and_true, Bool.true_and, true_and, h, h2, h5, h6, h7, a1, a2, a3, a4, a5, a6, Bool.not_true]
  exact ⟨fun k => (by cases k), fun _ => ⟨fun k => (by cases k), fun _ => ⟨_, rfl, rfl, by simp only [both, Al.blk, h7]; rfl⟩⟩⟩

theorem S3_ok (hE : Plain E) : SumsOK Try.prog E ra base S3 := by
  refine sumG_deal hE (sum2_deal hE (sumG_deal hE (sumG_deal hE (sumG_deal hE (sumG_deal hE (sumG_deal hE (S2_ok hE) ⟨_, Try.func8, by kernel_rfl⟩ fun y hy => come_gives hE y.x y.i y.k hy) ⟨_, Try.func9, by kernel_rfl⟩ fun y hy => ?_) ⟨_, Try.func10, by kernel_rfl⟩ fun y hy => beside_gives hE y.x y.i y.k hy) ⟨_, Try.func11, by kernel_rfl⟩ fun y hy => ?_)
    ⟨_, Try.func12, by kernel_rfl⟩ fun x hx => done_gives hE x hx) ⟨_, Try.func13, by kernel_rfl⟩ (fun r hr => ?_) (fun r hr => ?_)) ⟨_, Try.func14, by kernel_rfl⟩ fun y hy => alike_gives hE y hy
  · simp only [rcomeD, ok64, Bool.and_eq_true, decide_eq_true_eq] at hy
    exact rcome_gives hE y.r y.i y.k hy.1 hy.2
  · simp only [rbesideD, ok64, Bool.and_eq_true, decide_eq_true_eq] at hy
    exact rbeside_gives hE y.r y.i y.k hy.1 hy.2
  · simp only [rdone1, Bool.and_eq_true] at hr
    exact (rdone_gives hE r hr.1).1 hr.2
  · simp only [rdone2, Bool.and_eq_true, Bool.not_eq_true'] at hr
    exact (rdone_gives hE r hr.1).2 hr.2

theorem S4_ok (hE : Plain E) : SumsOK Try.prog E ra base S4 :=
  sumG_deal hE (S3_ok hE) ⟨_, Try.func15, by kernel_rfl⟩ fun _ _ => (gives_of_tree hE (W_ok sumNone_ok noL_ok) sumNone_ok (hp_below []) (works_tree E) ⟨_, rfl, rfl, rfl⟩).2
end

end Go.Proofs.Ytbdjcekekhgnkaa
