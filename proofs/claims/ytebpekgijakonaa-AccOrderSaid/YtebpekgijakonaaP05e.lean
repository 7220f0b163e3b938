/- acc: AccEnds' loops keep their contracts; the least and the greatest one. -/
import Derived.Test.YtebpekgijakonaaP05c
import Derived.Test.YtebpekgijakonaaT05e
namespace Go.Proofs.Ytebpekgijakonaa
open Ab

theorem one_n (v : Int) : (one v).n = 1 := rfl

theorem agg_facts : ∀ ys : List Int, ys.length ≤ 1000 → (agg ys).ok ∧ (agg ys).n = ys.length ∧
    (ys ≠ [] → ((agg ys).a ∈ ys ∧ ∀ y ∈ ys, (agg ys).a ≤ y) ∧ ((agg ys).b ∈ ys ∧ ∀ y ∈ ys, y ≤ (agg ys).b))
  | [], _ => ⟨⟨by decide, by decide⟩, rfl, fun h => absurd rfl h⟩
  | v :: ys, hl => by
    have hl' : ys.length ≤ 1000 := by simp at hl; omega
    obtain ⟨h1, h2, h3⟩ := agg_facts ys hl'
    have e : agg (v :: ys) = merge (one v) (agg ys) := rfl
    rw [e]
    refine ⟨merge_ok (one_ok v) h1, ?_⟩
    cases ys with
    | nil =>
      have e2 : merge (one v) (agg []) = one v := rfl
      rw [e2]
      refine ⟨rfl, fun _ => ⟨⟨by simp [one], ?_⟩, by simp [one], ?_⟩⟩ <;> (intro y hy; simp at hy; subst hy; exact Int.le_refl _)
    | cons w ys =>
      have hn : (agg (w :: ys)).n ≠ 0 := by rw [h2]; simp; omega
      rw [merge_ne (by rw [one_n]; decide) hn]
      obtain ⟨⟨a1, a2⟩, b1, b2⟩ := h3 (by simp)
      have hlen : (agg (w :: ys)).n = ((w :: ys).length : Int) := h2
      generalize (agg (w :: ys)).n = N at hlen hn ⊢
      generalize (agg (w :: ys)).a = A at a1 a2 ⊢
      generalize (agg (w :: ys)).b = B at b1 b2 ⊢
      refine ⟨?_, fun _ => ⟨⟨?_, ?_⟩, ?_, ?_⟩⟩
      · show wr .i64 (1 + N) = _
        rw [wr_in ⟨by simp at hl' hlen ⊢; omega, by simp at hl' hlen ⊢; omega⟩, hlen]
        simp; omega
      · show (if A < v then A else v) ∈ _
        by_cases h : A < v
        · rw [if_pos h]; exact List.mem_cons_of_mem _ a1
        · rw [if_neg h]; simp
      · intro y hy
        show (if A < v then A else v) ≤ y
        rcases List.mem_cons.1 hy with rfl | hy
        · by_cases h : A < y
          · rw [if_pos h]; omega
          · rw [if_neg h]; omega
        · have := a2 y hy
          by_cases h : A < v
          · rw [if_pos h]; omega
          · rw [if_neg h]; omega
      · show (if v < B then B else v) ∈ _
        by_cases h : v < B
        · rw [if_pos h]; exact List.mem_cons_of_mem _ b1
        · rw [if_neg h]; simp
      · intro y hy
        show y ≤ (if v < B then B else v)
        rcases List.mem_cons.1 hy with rfl | hy
        · by_cases h : y < B
          · rw [if_pos h]; omega
          · rw [if_neg h]; omega
        · have := b2 y hy
          by_cases h : v < B
          · rw [if_pos h]; omega
          · rw [if_neg h]; omega

section
variable {xs : List Int} {ra : Nat → Nat → Nat × Nat} {base : Nat}

theorem drop_take {m i : Nat} (hm : m ≤ xs.length) (hi : i < m) : (xs.take m).drop i = xs[i]'(by omega) :: (xs.take m).drop (i + 1) := by
  rw [List.drop_eq_getElem_cons (by rw [List.length_take]; omega)]
  simp

theorem down_loop {m : Nat} (hm : m ≤ xs.length) (hb : m ≤ 1000) :
    Takes Try.prog (tabI xs) ra base 1 (.loop (codeOf 6 [false, false, true, false, true, true, true, true])) (mkT 114 ((downD xs).ins m)) (hp 0 [zero.blk])
      fun x => x = (.exit 0, mkT 114 ((downD xs).outs m), hp 0 [(agg (xs.take m)).blk]) := by
  refine takes_loop (fun j ts h => ∃ i : Nat, i ≤ m ∧ j = i + 1 ∧ ts = mkT 114 [(0, .slice (.ro 0 0 0 0) m none), (3, .ptr (.own 0 0 0 0)), (4, .int .i64 ((i : Int) - 1))] ∧ h = hp 0 [(agg ((xs.take m).drop i)).blk])
    (fun ts h => by rintro ⟨i, _, h, _⟩; omega) (fun j ts h => ?_) (j := m + 1) ⟨m, Nat.le_refl _, rfl, rfl, by rw [List.drop_of_length_le (by rw [List.length_take]; omega)]; rfl⟩
  rintro ⟨i, hi, hj, rfl, rfl⟩
  have hP := tab_plain xs
  refine takes_of_tree hP (W_ok (S8_ok hP) noL_ok) (f := 6) (.inr (by kernel_rfl)) (hp_below _) (down_round m ((i : Int) - 1) (agg ((xs.take m).drop i)) xs) ?_
  simp only [Tree.holds, decide_eq_true_eq, decide_eq_false_iff_not, Bool.and_eq_true]
  refine ⟨fun h1 => ?_, fun h1 => ?_⟩
  · obtain ⟨q, rfl⟩ : ∃ q, i = q + 1 := ⟨i - 1, by omega⟩
    have hq : ((q + 1 : Nat) : Int) - 1 = (q : Int) := by omega
    have hlt : q < xs.length := by omega
    rw [hq]
    have hok : okL (agg ((xs.take m).drop (q + 1))) = true := by
      have := (agg_facts ((xs.take m).drop (q + 1)) (by rw [List.length_drop, List.length_take]; omega)).1
      simp only [okL, this.1, this.2, decide_true, Bool.and_self]
    have h1 : okL { n := 1, h := Int.fdiv (xs.getD (0 + Int.toNat (q : Int)) 0) 9223372036854775808, l := wr .u64 (xs.getD (0 + Int.toNat (q : Int)) 0), a := xs.getD (0 + Int.toNat (q : Int)) 0, b := xs.getD (0 + Int.toNat (q : Int)) 0 } = true := by
      have := wru_ok (xs.getD (0 + Int.toNat (q : Int)) 0)
      simp only [okL, this, decide_true, Bool.and_self]
    refine ⟨by omega, by rw [toNat_nat]; exact hlt, ⟨h1, hok⟩, ?_⟩
    refine ⟨q, by omega, by omega, ?_, ?_⟩
    · rw [wr_in ⟨by omega, by omega⟩]
    · rw [drop_take (i := q) hm (by omega), getD_nat hlt]; rfl
  · have : i = 0 := by omega
    subst this
    rfl

theorem has_succ {m i : Nat} (hm : m ≤ xs.length) (hi : i < m) (v : Int) : has ((xs.take m).drop i) v = (decide (xs[i]'(by omega) = v) || has ((xs.take m).drop (i + 1)) v) := by
  rw [drop_take hm hi]; rfl

theorem some_loop {x : Lim} (hm : x.m ≤ xs.length) (hb : x.m ≤ 1000) (hw : within (xs.take x.m) x.lo x.hi = true) :
    Takes Try.prog (tabI xs) ra base 0 (.loop (codeOf 6 [false, false, true, false, true, true, true, true, true, true, true, true, true, true])) (mkT 114 ((someD xs).ins x)) (hp 0 [])
      fun y => y = (.exit 2, mkT 114 ((someD xs).outs x), hp 0 []) := by
  refine takes_loop (fun j ts h => ∃ (i : Nat) (s o : Bool), i ≤ x.m ∧ j = x.m - i + 1 ∧ ts = mkT 114 [(0, .slice (.ro 0 0 0 0) x.m none), (5, .int .i64 x.lo), (7, .int .i64 x.hi), (11, .bool s), (12, .bool o), (13, .int .i64 i)] ∧ h = hp 0 [] ∧
      (s || has ((xs.take x.m).drop i) x.lo) = (x.s || has (xs.take x.m) x.lo) ∧ (o || has ((xs.take x.m).drop i) x.hi) = (x.o || has (xs.take x.m) x.hi))
    (fun ts h => by rintro ⟨i, s, o, _, h, _⟩; omega) (fun j ts h => ?_) (j := x.m + 1) ⟨0, x.s, x.o, Nat.zero_le _, rfl, rfl, rfl, rfl, rfl⟩
  rintro ⟨i, s, o, hi, hj, rfl, rfl, hs, ho⟩
  have hP := tab_plain xs
  refine takes_of_tree hP (W_ok (S8_ok hP) noL_ok) (f := 6) (.inr (by kernel_rfl)) (hp_below _) (some_round x.m i x.lo x.hi s o xs) ?_
  simp only [Tree.holds, decide_eq_true_eq, decide_eq_false_iff_not, Bool.and_eq_true]
  refine ⟨fun h1 => ?_, fun h1 => ?_⟩
  · have hlt : i < xs.length := by omega
    have hw' : wr .i64 ((i : Int) + 1) = ((i + 1 : Nat) : Int) := by rw [wr_in ⟨by omega, by omega⟩]; omega
    have hin : x.lo ≤ xs[i] ∧ xs[i] ≤ x.hi := by
      have hmem : xs[i] ∈ xs.take x.m := List.mem_take_iff_getElem.2 ⟨i, by omega, rfl⟩
      simpa using List.all_eq_true.1 hw _ hmem
    rw [getD_nat hlt, hw', toNat_nat]
    rw [has_succ hm (by omega)] at hs ho
    refine ⟨by omega, hlt, fun h => absurd h (by omega), fun _ => ⟨by omega, hlt, fun h => absurd h (by omega), fun _ => ⟨fun h2 => ⟨fun h3 => ?_, fun h3 => ⟨by omega, hlt, ?_⟩⟩, fun h2 => ⟨by omega, hlt, fun h3 => ?_, fun h3 => ⟨by omega, hlt, ?_⟩⟩⟩⟩⟩
    · subst h2; subst h3
      exact ⟨i + 1, true, true, by omega, by omega, rfl, rfl, by rw [← hs]; simp, by rw [← ho]; simp⟩
    · subst h2; subst h3
      exact ⟨i + 1, true, _, by omega, by omega, rfl, rfl, by rw [← hs]; simp, by rw [← ho]; simp⟩
    · subst h2; subst h3
      exact ⟨i + 1, _, true, by omega, by omega, rfl, rfl, by rw [← hs]; simp, by rw [← ho]; simp⟩
    · subst h2; subst h3
      exact ⟨i + 1, _, _, by omega, by omega, rfl, rfl, by rw [← hs]; simp, by rw [← ho]; simp⟩
  · have : i = x.m := by omega
    subst this
    rw [List.drop_of_length_le (by rw [List.length_take]; omega)] at hs ho
    simp only [has, List.any_nil, Bool.or_false] at hs ho
    simp only [Round, someD, has, ← hs, ← ho]
    rfl
end

end Go.Proofs.Ytebpekgijakonaa
