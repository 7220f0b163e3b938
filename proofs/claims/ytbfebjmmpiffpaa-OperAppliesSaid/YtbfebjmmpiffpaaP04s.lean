/- oper: OperSorts as a whole. -/
import Derived.Test.YtbfebjmmpiffpaaP04h
import Derived.Test.YtbfebjmmpiffpaaT04s
set_option linter.unusedSimpArgs false
set_option linter.unusedVariables false
namespace Go.Proofs.Ytbfebjmmpiffpaa
open Ab

theorem S3_ok {E : Nat → Nat → Seg} {ra : Nat → Nat → Nat × Nat} {base : Nat} (hE : Plain E) : SumsOK Try.prog E ra base S3 := by
  refine sumNG_deal hE (S2_ok hE) ⟨_, Try.func15, by kernel_rfl⟩ ?_ ?_
  · intro q hq
    simp only [List.mem_cons, List.not_mem_nil, or_false] at hq
    subst hq
    intro x hx
    simp only [apNone, Bool.and_eq_true] at hx
    refine Gives.mono (fun v h' hv => ?_) (ap_g hE x hx.1)
    exact hv.1 hx.2
  · intro x hx
    simp only [apSome, Bool.and_eq_true, Bool.not_eq_true'] at hx
    refine Gives.mono (fun v h' hv => ?_) (ap_g hE x hx.1)
    exact hv.2 hx.2

/-- what one, or two operators make of a record -/
theorem res1 {k a b g : Int} {c : Option Nat} {r : Rc} (h : doesB ⟨k, a, b, g⟩ = true) : Ap.res ⟨true, ⟨[k], [a], [b], [g]⟩, c, r⟩ = makes ⟨k, a, b, g⟩ r := by
  show step ⟨k, a, b, g⟩ [r] = _
  rw [step, if_pos h]; simp
theorem class2 {a b g : Int} : classE ⟨2, a, b, g⟩ = 0 := rfl
theorem class1 {a b g : Int} : classE ⟨1, a, b, g⟩ = 0 := rfl
theorem does2 {a i : Int} (ha : 1 ≤ a ∧ a ≤ 20) (hi : 0 ≤ i ∧ i < a) : doesB ⟨2, a, i, 0⟩ = true := does_iff.2 ⟨may_iff2.2 ⟨rfl, ⟨by omega, by omega⟩, by omega, by omega⟩, class2⟩
theorem does1 {a b : Int} (ha : 1 ≤ a ∧ a ≤ 20) (hb : 0 ≤ b ∧ b < 4294967296) : doesB ⟨1, a, b, 0⟩ = true := does_iff.2 ⟨may_iff1.2 ⟨rfl, ⟨by omega, by omega⟩, by omega, by omega⟩, class1⟩

def left (a v : Int) : Int := if Int.tmod v a < 0 then wr .i64 (Int.tmod v a + a) else Int.tmod v a
theorem left_in {a v : Int} (ha : 1 ≤ a ∧ a ≤ 20) : 0 ≤ left a v ∧ left a v < a := by
  have h : -a < Int.tmod v a ∧ Int.tmod v a < a := by
    rcases Int.le_total 0 v with h | h
    · rw [Int.tmod_eq_emod_of_nonneg h]
      have := Int.emod_nonneg v (b := a) (by omega)
      have := Int.emod_lt_of_pos v (b := a) (by omega)
      omega
    · have e : Int.tmod v a = -((-v) % a) := by rw [← Int.tmod_eq_emod_of_nonneg (by omega), Int.neg_tmod, Int.neg_neg]
      have := Int.emod_nonneg (-v) (b := a) (by omega)
      have := Int.emod_lt_of_pos (-v) (b := a) (by omega)
      rw [e]; omega
  unfold left
  generalize Int.tmod v a = t at h ⊢
  split
  · rw [wr_in ⟨by omega, by omega⟩]; omega
  · omega
theorem res2 {a i : Int} {c : Option Nat} {k t v s : Int} (ha : 1 ≤ a ∧ a ≤ 20) (hi : 0 ≤ i ∧ i < a) : Ap.res ⟨true, ⟨[2], [a], [i], [0]⟩, c, ⟨k, t, v, s, false, false⟩⟩ = if left a v = i then [⟨k, t, v, s, false, false⟩] else [] := by
  rw [res1 (does2 ha hi), makes_not rfl rfl, if_neg (show ¬ ((2 : Int) = 0) by decide), if_neg (show ¬ ((2 : Int) = 1) by decide), if_pos rfl]; rfl

theorem resSame {c : Option Nat} {k t v s : Int} (hv : in64 v) : Ap.res ⟨true, ⟨[3, 0], [1, 1], [99, 0], [0, 0]⟩, c, ⟨k, t, v, s, false, false⟩⟩ = [⟨k, t, v, s, false, false⟩] := by
  show step ⟨0, 1, 0, 0⟩ (step ⟨3, 1, 99, 0⟩ [⟨k, t, v, s, false, false⟩]) = _
  have h1 : step ⟨3, 1, 99, 0⟩ [⟨k, t, v, s, false, false⟩] = [⟨k, t, v, s, false, false⟩] := by
    rw [step, if_pos (does_iff.2 ⟨may_iff3.2 ⟨rfl, by decide, by decide⟩, rfl⟩)]; rfl
  have h2 : wr .i64 (wr .i64 (v * 1) + 0) = v := by rw [Int.mul_one, wr_in hv, Int.add_zero, wr_in hv]
  rw [h1, step, if_pos (does_iff.2 ⟨may_iff0.2 rfl, rfl⟩)]
  show [(⟨k, t, wr .i64 (wr .i64 (v * 1) + 0), s, false, false⟩ : Rc)] = _
  rw [h2]

def keyN (a b k : Int) : Int := wr .u32 (wr .u32 (Int.tmod (wr .u64 k) (wr .u64 a)) + wr .u32 b)
theorem resKey {a b : Int} {c : Option Nat} {k t v s : Int} (ha : 1 ≤ a ∧ a ≤ 20) (hb : 0 ≤ b ∧ b < 4294967296) : Ap.res ⟨true, ⟨[1], [a], [b], [0]⟩, c, ⟨k, t, v, s, false, false⟩⟩ = [⟨keyN a b k, t, v, s, false, false⟩] := by
  rw [res1 (does1 ha hb), makes_not rfl rfl, if_neg (show ¬ ((1 : Int) = 0) by decide), if_pos rfl]; rfl
theorem key_lt {a b k : Int} (ha : 1 ≤ a ∧ a ≤ 20) (hb : 0 ≤ b ∧ b < 4294967296) (hk : 0 ≤ k ∧ k < 4294967296) : wr .u32 (keyN a b k - b) < wr .u32 a := by
  have e1 : wr .u64 k = k := wr_u64 ⟨hk.1, by omega⟩
  have e2 : wr .u64 a = a := wr_u64 ⟨by omega, by omega⟩
  have e3 : ∀ {x : Int}, 0 ≤ x ∧ x < 4294967296 → wr .u32 x = x := fun {x} h => by
    show x % 4294967296 = x
    omega
  have h1 := Int.emod_nonneg k (b := a) (by omega)
  have h2 := Int.emod_lt_of_pos k (b := a) (by omega)
  unfold keyN
  rw [e1, e2, Int.tmod_eq_emod_of_nonneg hk.1, e3 hb, e3 (x := a) ⟨by omega, by omega⟩]
  generalize k % a = q at h1 h2 ⊢
  rw [e3 (x := q) ⟨by omega, by omega⟩]
  show ((q + b) % 4294967296 - b) % 4294967296 < a
  omega

section
variable {E : Nat → Nat → Seg} {ra : Nat → Nat → Nat × Nat} {base : Nat}

theorem so_step (hE : Plain E) {b a k t v s : Int} (ha : 1 ≤ a ∧ a ≤ 20) {n : Int} (hn : n = 0 ∨ n = 1) {i : Nat} (hi : (i : Int) < a) :
    Takes Try.prog E ra base 0 (codeOf 6 (false :: pS)) (mkT 85 (So.at ⟨b, ⟨k, t, v, s, false, false⟩, a⟩ n i)) (hp 0 [Rc.cells ⟨k, t, v, s, false, false⟩]) fun y =>
      y = (.normal, mkT 85 (So.at ⟨b, ⟨k, t, v, s, false, false⟩, a⟩ (n + if left a v = i then 1 else 0) ((i + 1 : Nat) : Int)), hp 0 [Rc.cells ⟨k, t, v, s, false, false⟩]) := by
  have hS := S3_ok (ra := ra) (base := base) hE
  refine takes_of_tree hE (wE hE hS) (f := 6) (.inr (by kernel_rfl)) (hp_below _) (so_round E b a n i k t v s) ?_
  have c1 : decide ((i : Int) < a) = true := decide_eq_true hi
  have hr := res2 (a := a) (i := i) (c := some 1) (k := k) (t := t) (v := v) (s := s) ha ⟨by omega, hi⟩
  have ht : wr .i64 ((i : Int) + 1) = ((i + 1 : Nat) : Int) := till (by omega)
  have hno : Ap.none ⟨true, ⟨[2], [a], [(i : Int)], [0]⟩, some 1, ⟨k, t, v, s, false, false⟩⟩ = !decide (left a v = i) := by
    rw [Ap.none, hr]
    by_cases h : left a v = i
    · rw [if_pos h, decide_eq_true h]; rfl
    · rw [if_neg h, decide_eq_false h]; rfl
  rw [hno, hr, ht]
  by_cases h : left a v = i
  · simp only [if_pos h, decide_eq_true h, Tree.holds, c1, decide_true, Bool.and_self, Bool.and_true, Bool.true_and, true_and, Bool.not_true, Bool.not_false, Bool.false_eq_true, Bool.true_eq_false, false_implies, forall_const, and_true]
    have hw : wr .i64 (n + ((List.length [(⟨k, t, v, s, false, false⟩ : Rc)] : Nat) : Int)) = n + 1 := by
      rw [List.length_cons, List.length_nil]; exact wr_in ⟨by omega, by omega⟩
    rw [hw]; rfl
  · simp only [if_neg h, decide_eq_false h, Tree.holds, c1, decide_true, Bool.and_self, Bool.and_true, Bool.true_and, true_and, Bool.not_true, Bool.not_false, Bool.false_eq_true, Bool.true_eq_false, false_implies, forall_const, and_true]
    rw [wr_in ⟨by omega, by omega⟩]; rfl

theorem so_takes (hE : Plain E) (x : So) (hx : soD.pre x = true) : Takes Try.prog E ra base 0 (.loop (codeOf 6 (false :: pS))) (mkT 85 (soD.ins x)) (hp 0 (soD.blks x)) fun w => PostL 85 x w soD.alts := by
  obtain ⟨b, ⟨k, t, v, s, e, l⟩, a⟩ := x
  simp only [soD, Bool.and_eq_true, decide_eq_true_eq, Bool.not_eq_true'] at hx
  obtain ⟨rfl, rfl, h3, h4⟩ := hx
  have hl := left_in (v := v) ⟨h3, h4⟩
  have hS := S3_ok (ra := ra) (base := base) hE
  refine takes_loop (fun j ts h => ∃ i : Nat, i ≤ a.toNat ∧ j = a.toNat - i + 1 ∧ ts = mkT 85 (So.at ⟨b, ⟨k, t, v, s, false, false⟩, a⟩ (if left a v < i then 1 else 0) i) ∧ h = hp 0 [Rc.cells ⟨k, t, v, s, false, false⟩]) (fun ts h => by rintro ⟨_, _, h, _⟩; omega) (fun j ts h' => ?_) (j := a.toNat + 1) ⟨0, Nat.zero_le _, rfl, ?_, rfl⟩
  · rintro ⟨i, k1, k2, rfl, rfl⟩
    rcases Nat.lt_or_ge i a.toNat with hi | hi
    · refine (so_step hE ⟨h3, h4⟩ (by split <;> simp) (by omega)).mono ?_
      rintro w rfl
      refine ⟨i + 1, by omega, by omega, ?_, rfl⟩
      have : ((if left a v < (i : Int) then (1 : Int) else 0) + if left a v = (i : Int) then 1 else 0) = if left a v < ((i + 1 : Nat) : Int) then 1 else 0 := by
        generalize left a v = z
        split <;> split <;> split <;> omega
      rw [this]
    · have hia : (i : Int) = a := by omega
      refine takes_of_tree hE (wE hE hS) (f := 6) (.inr (by kernel_rfl)) (hp_below _) (so_round E b a (if left a v < i then 1 else 0) i k t v s) ?_
      have c1 : decide ((i : Int) < a) = false := decide_eq_false (by omega)
      simp only [Tree.holds, c1, Bool.false_eq_true, false_implies, true_and, forall_const]
      refine ⟨(), trivial, ?_⟩
      rw [if_pos (by omega)]; rfl
  · show mkT 85 (So.at _ 0 0) = _
    rw [if_neg (by have := hl.1; omega)]; rfl

theorem TSo_ok (hE : Plain E) : ToldsOK Try.prog E ra base 0 TSo := sumT_ok noT_ok rfl (toldR_ok (c := .loop (codeOf 6 (false :: pS))) (by kernel_rfl) (so_takes hE))

theorem sorts_gives (hE : Plain E) {k t v s m b : Int} {e l : Bool} (hk : 0 ≤ k ∧ k < 4294967296) (hv : in64 v) (hm : 0 ≤ m ∧ m < 256) (hb : 0 ≤ b ∧ b < 4294967296) :
    Gives Try.prog E ra base 0 6 [Rc.v ⟨k, t, v, s, e, l⟩, .int .u8 m, .int .u32 b] (hp 0 []) fun v _ => v = .bool true := by
  have hS := S3_ok (ra := ra) (base := base) hE
  have hT := TSo_ok (ra := ra) (base := base) hE
  refine gives_of_treeQ hE (wE hE hS) hT (hp_below _) (so_call E k t v s m b e l) ?_
  have e0 : Int.tmod m 20 = m % 20 := Int.tmod_eq_emod_of_nonneg hm.1
  have e1 : wr .i64 (1 + wr .i64 (Int.tmod m 20)) = 1 + m % 20 := by
    rw [e0, wr_in (v := m % 20) ⟨by omega, by omega⟩, wr_in ⟨by omega, by omega⟩]
  have e2 : wr .i64 b = b := wr_in ⟨by omega, by omega⟩
  rw [e1, e2]
  have ha : 1 ≤ 1 + m % 20 ∧ 1 + m % 20 ≤ 20 := by omega
  generalize 1 + m % 20 = a at ha ⊢
  have r1 := fun c => resKey (a := a) (b := b) (c := c) (k := k) (t := t) (v := v) (s := s) ha hb
  have r2 := fun c => resSame (c := c) (k := k) (t := t) (v := v) (s := s) hv
  have n1 : ∀ c, Ap.none ⟨true, ⟨[1], [a], [b], [0]⟩, c, ⟨k, t, v, s, false, false⟩⟩ = false := fun c => by rw [Ap.none, r1]; rfl
  have n2 : ∀ c, Ap.none ⟨true, ⟨[3, 0], [1, 1], [99, 0], [0, 0]⟩, c, ⟨k, t, v, s, false, false⟩⟩ = false := fun c => by rw [Ap.none, r2]; rfl
  have kl := key_lt ha hb hk
  have d1 : decide (1 ≤ a) = true := decide_eq_true ha.1
  have d2 : decide (a ≤ 20) = true := decide_eq_true ha.2
  have d3 : decide (wr .u32 (keyN a b k - b) < wr .u32 a) = true := decide_eq_true kl
  simp only [r1, r2, n1, n2, List.map_cons, List.map_nil, List.length_cons, List.length_nil]
  simp only [TreeQ.holds, d1, d2, d3, List.getD_cons_zero, decide_true, Bool.and_self, Bool.and_true, Bool.true_and, true_and, Bool.not_true, Bool.not_false, Bool.false_eq_true, Bool.true_eq_false, false_implies, forall_const, and_true]
  exact ⟨fun _ => ⟨rfl, rfl, rfl, rfl, _, rfl, rfl⟩, fun h => absurd h (by decide)⟩
end
end Go.Proofs.Ytbfebjmmpiffpaa
