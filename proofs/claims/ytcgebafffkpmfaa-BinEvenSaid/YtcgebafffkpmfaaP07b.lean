/- bins: BinEven: turns; how often each worker is told; the whole. -/
import Derived.Test.YtcgebafffkpmfaaP07a
set_option linter.unusedSimpArgs false
namespace Go.Proofs.Ytcgebafffkpmfaa
open Ab

section
variable {ra : Nat → Nat → Nat × Nat} {base : Nat}
theorem turns1_some (n : Nat) (h0 : n ≠ 0) (hn : n < 30) : Gives Try.prog noSeg ra base 2 8 (turns1.args ⟨n, zerosI n, 1, [1]⟩) (hp 0 (turns1.blks ⟨n, zerosI n, 1, [1]⟩)) fun v h' => v = turns1.out ⟨n, zerosI n, 1, [1]⟩ ∧ h' = hp 0 (turns1.blks' ⟨n, zerosI n, 1, [1]⟩) := by
  have hE := noE_plain
  refine (gives_of_tree hE (W_ok sumNone_ok noL_ok) sumNone_ok (hp_below _) (turns_1 n) ?_).2
  have leaf : ∀ (j : Nat) (L : List Int), n = j → L = turnsL 1 j → ∃ v, mkT 1 [(0, .slice (.own 2 0 0 1) j none)] = [v] ∧ v = turns1.out ⟨n, zerosI n, 1, [1]⟩ ∧ ([(0, some (.segs [⟨n, 1, [.int .i64 (zerosI n)]⟩])), (1, some (.segs [⟨1, 1, [.int .i64 [1]]⟩])), (2, some (.segs [⟨j, 1, [.int .i64 L]⟩]))] : Log) = hp 0 (turns1.blks' ⟨n, zerosI n, 1, [1]⟩) := by
    rintro j L rfl rfl
    exact ⟨_, rfl, rfl, rfl⟩
  simp only [Tree.holds, decide_eq_true_eq, decide_eq_false_iff_not]
  refine ⟨fun e => absurd e (by omega), fun _ => ?_⟩
  refine ⟨fun e => leaf 1 _ (by omega) rfl, fun _ => ?_⟩
  refine ⟨fun e => leaf 2 _ (by omega) rfl, fun _ => ?_⟩
  refine ⟨fun e => leaf 3 _ (by omega) rfl, fun _ => ?_⟩
  refine ⟨fun e => leaf 4 _ (by omega) rfl, fun _ => ?_⟩
  refine ⟨fun e => leaf 5 _ (by omega) rfl, fun _ => ?_⟩
  refine ⟨fun e => leaf 6 _ (by omega) rfl, fun _ => ?_⟩
  refine ⟨fun e => leaf 7 _ (by omega) rfl, fun _ => ?_⟩
  refine ⟨fun e => leaf 8 _ (by omega) rfl, fun _ => ?_⟩
  refine ⟨fun e => leaf 9 _ (by omega) rfl, fun _ => ?_⟩
  refine ⟨fun e => leaf 10 _ (by omega) rfl, fun _ => ?_⟩
  refine ⟨fun e => leaf 11 _ (by omega) rfl, fun _ => ?_⟩
  refine ⟨fun e => leaf 12 _ (by omega) rfl, fun _ => ?_⟩
  refine ⟨fun e => leaf 13 _ (by omega) rfl, fun _ => ?_⟩
  refine ⟨fun e => leaf 14 _ (by omega) rfl, fun _ => ?_⟩
  refine ⟨fun e => leaf 15 _ (by omega) rfl, fun _ => ?_⟩
  refine ⟨fun e => leaf 16 _ (by omega) rfl, fun _ => ?_⟩
  refine ⟨fun e => leaf 17 _ (by omega) rfl, fun _ => ?_⟩
  refine ⟨fun e => leaf 18 _ (by omega) rfl, fun _ => ?_⟩
  refine ⟨fun e => leaf 19 _ (by omega) rfl, fun _ => ?_⟩
  refine ⟨fun e => leaf 20 _ (by omega) rfl, fun _ => ?_⟩
  refine ⟨fun e => leaf 21 _ (by omega) rfl, fun _ => ?_⟩
  refine ⟨fun e => leaf 22 _ (by omega) rfl, fun _ => ?_⟩
  refine ⟨fun e => leaf 23 _ (by omega) rfl, fun _ => ?_⟩
  refine ⟨fun e => leaf 24 _ (by omega) rfl, fun _ => ?_⟩
  refine ⟨fun e => leaf 25 _ (by omega) rfl, fun _ => ?_⟩
  refine ⟨fun e => leaf 26 _ (by omega) rfl, fun _ => ?_⟩
  refine ⟨fun e => leaf 27 _ (by omega) rfl, fun _ => ?_⟩
  refine ⟨fun e => leaf 28 _ (by omega) rfl, fun _ => ?_⟩
  exact ⟨by omega, leaf 29 _ (by omega) rfl⟩
theorem turns1_none : Gives Try.prog noSeg ra base 2 8 (turns0.args ⟨0, zerosI 0, 1, [1]⟩) (hp 0 (turns0.blks ⟨0, zerosI 0, 1, [1]⟩)) fun v h' => v = turns0.out ⟨0, zerosI 0, 1, [1]⟩ ∧ h' = hp 0 (turns0.blks' ⟨0, zerosI 0, 1, [1]⟩) := by
  have hE := noE_plain
  refine (gives_of_tree hE (W_ok sumNone_ok noL_ok) sumNone_ok (hp_below _) (turns_1 0) ?_).2
  exact ⟨fun _ => ⟨_, rfl, rfl, rfl⟩, fun h => absurd h (by decide)⟩
theorem turns2_some (n : Nat) (h0 : n ≠ 0) (hn : n < 30) : Gives Try.prog noSeg ra base 2 8 (turns1.args ⟨n, zerosI n, 2, [1, 2]⟩) (hp 0 (turns1.blks ⟨n, zerosI n, 2, [1, 2]⟩)) fun v h' => v = turns1.out ⟨n, zerosI n, 2, [1, 2]⟩ ∧ h' = hp 0 (turns1.blks' ⟨n, zerosI n, 2, [1, 2]⟩) := by
  have hE := noE_plain
  refine (gives_of_tree hE (W_ok sumNone_ok noL_ok) sumNone_ok (hp_below _) (turns_2 n) ?_).2
  have leaf : ∀ (j : Nat) (L : List Int), n = j → L = turnsL 2 j → ∃ v, mkT 1 [(0, .slice (.own 2 0 0 1) j none)] = [v] ∧ v = turns1.out ⟨n, zerosI n, 2, [1, 2]⟩ ∧ ([(0, some (.segs [⟨n, 1, [.int .i64 (zerosI n)]⟩])), (1, some (.segs [⟨2, 1, [.int .i64 [1, 2]]⟩])), (2, some (.segs [⟨j, 1, [.int .i64 L]⟩]))] : Log) = hp 0 (turns1.blks' ⟨n, zerosI n, 2, [1, 2]⟩) := by
    rintro j L rfl rfl
    exact ⟨_, rfl, rfl, rfl⟩
  simp only [Tree.holds, decide_eq_true_eq, decide_eq_false_iff_not]
  refine ⟨fun e => absurd e (by omega), fun _ => ?_⟩
  refine ⟨fun e => leaf 1 _ (by omega) rfl, fun _ => ?_⟩
  refine ⟨fun e => leaf 2 _ (by omega) rfl, fun _ => ?_⟩
  refine ⟨fun e => leaf 3 _ (by omega) rfl, fun _ => ?_⟩
  refine ⟨fun e => leaf 4 _ (by omega) rfl, fun _ => ?_⟩
  refine ⟨fun e => leaf 5 _ (by omega) rfl, fun _ => ?_⟩
  refine ⟨fun e => leaf 6 _ (by omega) rfl, fun _ => ?_⟩
  refine ⟨fun e => leaf 7 _ (by omega) rfl, fun _ => ?_⟩
  refine ⟨fun e => leaf 8 _ (by omega) rfl, fun _ => ?_⟩
  refine ⟨fun e => leaf 9 _ (by omega) rfl, fun _ => ?_⟩
  refine ⟨fun e => leaf 10 _ (by omega) rfl, fun _ => ?_⟩
  refine ⟨fun e => leaf 11 _ (by omega) rfl, fun _ => ?_⟩
  refine ⟨fun e => leaf 12 _ (by omega) rfl, fun _ => ?_⟩
  refine ⟨fun e => leaf 13 _ (by omega) rfl, fun _ => ?_⟩
  refine ⟨fun e => leaf 14 _ (by omega) rfl, fun _ => ?_⟩
  refine ⟨fun e => leaf 15 _ (by omega) rfl, fun _ => ?_⟩
  refine ⟨fun e => leaf 16 _ (by omega) rfl, fun _ => ?_⟩
  refine ⟨fun e => leaf 17 _ (by omega) rfl, fun _ => ?_⟩
  refine ⟨fun e => leaf 18 _ (by omega) rfl, fun _ => ?_⟩
  refine ⟨fun e => leaf 19 _ (by omega) rfl, fun _ => ?_⟩
  refine ⟨fun e => leaf 20 _ (by omega) rfl, fun _ => ?_⟩
  refine ⟨fun e => leaf 21 _ (by omega) rfl, fun _ => ?_⟩
  refine ⟨fun e => leaf 22 _ (by omega) rfl, fun _ => ?_⟩
  refine ⟨fun e => leaf 23 _ (by omega) rfl, fun _ => ?_⟩
  refine ⟨fun e => leaf 24 _ (by omega) rfl, fun _ => ?_⟩
  refine ⟨fun e => leaf 25 _ (by omega) rfl, fun _ => ?_⟩
  refine ⟨fun e => leaf 26 _ (by omega) rfl, fun _ => ?_⟩
  refine ⟨fun e => leaf 27 _ (by omega) rfl, fun _ => ?_⟩
  refine ⟨fun e => leaf 28 _ (by omega) rfl, fun _ => ?_⟩
  exact ⟨by omega, leaf 29 _ (by omega) rfl⟩
theorem turns2_none : Gives Try.prog noSeg ra base 2 8 (turns0.args ⟨0, zerosI 0, 2, [1, 2]⟩) (hp 0 (turns0.blks ⟨0, zerosI 0, 2, [1, 2]⟩)) fun v h' => v = turns0.out ⟨0, zerosI 0, 2, [1, 2]⟩ ∧ h' = hp 0 (turns0.blks' ⟨0, zerosI 0, 2, [1, 2]⟩) := by
  have hE := noE_plain
  refine (gives_of_tree hE (W_ok sumNone_ok noL_ok) sumNone_ok (hp_below _) (turns_2 0) ?_).2
  exact ⟨fun _ => ⟨_, rfl, rfl, rfl⟩, fun h => absurd h (by decide)⟩
theorem turns3_some (n : Nat) (h0 : n ≠ 0) (hn : n < 30) : Gives Try.prog noSeg ra base 2 8 (turns1.args ⟨n, zerosI n, 3, [1, 2, 3]⟩) (hp 0 (turns1.blks ⟨n, zerosI n, 3, [1, 2, 3]⟩)) fun v h' => v = turns1.out ⟨n, zerosI n, 3, [1, 2, 3]⟩ ∧ h' = hp 0 (turns1.blks' ⟨n, zerosI n, 3, [1, 2, 3]⟩) := by
  have hE := noE_plain
  refine (gives_of_tree hE (W_ok sumNone_ok noL_ok) sumNone_ok (hp_below _) (turns_3 n) ?_).2
  have leaf : ∀ (j : Nat) (L : List Int), n = j → L = turnsL 3 j → ∃ v, mkT 1 [(0, .slice (.own 2 0 0 1) j none)] = [v] ∧ v = turns1.out ⟨n, zerosI n, 3, [1, 2, 3]⟩ ∧ ([(0, some (.segs [⟨n, 1, [.int .i64 (zerosI n)]⟩])), (1, some (.segs [⟨3, 1, [.int .i64 [1, 2, 3]]⟩])), (2, some (.segs [⟨j, 1, [.int .i64 L]⟩]))] : Log) = hp 0 (turns1.blks' ⟨n, zerosI n, 3, [1, 2, 3]⟩) := by
    rintro j L rfl rfl
    exact ⟨_, rfl, rfl, rfl⟩
  simp only [Tree.holds, decide_eq_true_eq, decide_eq_false_iff_not]
  refine ⟨fun e => absurd e (by omega), fun _ => ?_⟩
  refine ⟨fun e => leaf 1 _ (by omega) rfl, fun _ => ?_⟩
  refine ⟨fun e => leaf 2 _ (by omega) rfl, fun _ => ?_⟩
  refine ⟨fun e => leaf 3 _ (by omega) rfl, fun _ => ?_⟩
  refine ⟨fun e => leaf 4 _ (by omega) rfl, fun _ => ?_⟩
  refine ⟨fun e => leaf 5 _ (by omega) rfl, fun _ => ?_⟩
  refine ⟨fun e => leaf 6 _ (by omega) rfl, fun _ => ?_⟩
  refine ⟨fun e => leaf 7 _ (by omega) rfl, fun _ => ?_⟩
  refine ⟨fun e => leaf 8 _ (by omega) rfl, fun _ => ?_⟩
  refine ⟨fun e => leaf 9 _ (by omega) rfl, fun _ => ?_⟩
  refine ⟨fun e => leaf 10 _ (by omega) rfl, fun _ => ?_⟩
  refine ⟨fun e => leaf 11 _ (by omega) rfl, fun _ => ?_⟩
  refine ⟨fun e => leaf 12 _ (by omega) rfl, fun _ => ?_⟩
  refine ⟨fun e => leaf 13 _ (by omega) rfl, fun _ => ?_⟩
  refine ⟨fun e => leaf 14 _ (by omega) rfl, fun _ => ?_⟩
  refine ⟨fun e => leaf 15 _ (by omega) rfl, fun _ => ?_⟩
  refine ⟨fun e => leaf 16 _ (by omega) rfl, fun _ => ?_⟩
  refine ⟨fun e => leaf 17 _ (by omega) rfl, fun _ => ?_⟩
  refine ⟨fun e => leaf 18 _ (by omega) rfl, fun _ => ?_⟩
  refine ⟨fun e => leaf 19 _ (by omega) rfl, fun _ => ?_⟩
  refine ⟨fun e => leaf 20 _ (by omega) rfl, fun _ => ?_⟩
  refine ⟨fun e => leaf 21 _ (by omega) rfl, fun _ => ?_⟩
  refine ⟨fun e => leaf 22 _ (by omega) rfl, fun _ => ?_⟩
  refine ⟨fun e => leaf 23 _ (by omega) rfl, fun _ => ?_⟩
  refine ⟨fun e => leaf 24 _ (by omega) rfl, fun _ => ?_⟩
  refine ⟨fun e => leaf 25 _ (by omega) rfl, fun _ => ?_⟩
  refine ⟨fun e => leaf 26 _ (by omega) rfl, fun _ => ?_⟩
  refine ⟨fun e => leaf 27 _ (by omega) rfl, fun _ => ?_⟩
  refine ⟨fun e => leaf 28 _ (by omega) rfl, fun _ => ?_⟩
  exact ⟨by omega, leaf 29 _ (by omega) rfl⟩
theorem turns3_none : Gives Try.prog noSeg ra base 2 8 (turns0.args ⟨0, zerosI 0, 3, [1, 2, 3]⟩) (hp 0 (turns0.blks ⟨0, zerosI 0, 3, [1, 2, 3]⟩)) fun v h' => v = turns0.out ⟨0, zerosI 0, 3, [1, 2, 3]⟩ ∧ h' = hp 0 (turns0.blks' ⟨0, zerosI 0, 3, [1, 2, 3]⟩) := by
  have hE := noE_plain
  refine (gives_of_tree hE (W_ok sumNone_ok noL_ok) sumNone_ok (hp_below _) (turns_3 0) ?_).2
  exact ⟨fun _ => ⟨_, rfl, rfl, rfl⟩, fun h => absurd h (by decide)⟩

theorem k7P_iff {y : K7} : k7P y = true ↔ 1 ≤ y.w ∧ y.w ≤ 3 ∧ y.n < 30 ∧ y.to = turnsL y.w y.w ∧ y.l = zerosI y.n := by
  simp only [k7P, Bool.and_eq_true, decide_eq_true_eq]

theorem S2_ok : SumsOK Try.prog noSeg ra base S2 := by
  refine sum2_deal noE_plain S1_ok ⟨_, Try.func8, by kernel_rfl⟩ (fun y hy => ?_) (fun y hy => ?_)
  · simp only [turns0, Bool.and_eq_true] at hy
    obtain ⟨h1, h2, h3, h4, h5⟩ := k7P_iff.1 hy.1
    have h0 := Nat.eq_of_beq_eq_true hy.2
    obtain ⟨n, l, w, to⟩ := y
    simp only at h0 h1 h2 h3 h4 h5
    subst h0; subst h4; subst h5
    rcases (by omega : w = 1 ∨ w = 2 ∨ w = 3) with rfl | rfl | rfl
    · exact turns1_none
    · exact turns2_none
    · exact turns3_none
  · simp only [turns1, Bool.and_eq_true, Bool.not_eq_true'] at hy
    obtain ⟨h1, h2, h3, h4, h5⟩ := k7P_iff.1 hy.1
    have h0 : ¬ y.n = 0 := fun h => by rw [noN, h] at hy; exact absurd hy.2 (by decide)
    obtain ⟨n, l, w, to⟩ := y
    simp only at h0 h1 h2 h3 h4 h5
    subst h4; subst h5
    rcases (by omega : w = 1 ∨ w = 2 ∨ w = 3) with rfl | rfl | rfl
    · exact turns1_some n h0 h3
    · exact turns2_some n h0 h3
    · exact turns3_some n h0 h3

/-! ### How often each is told -/

theorem cntT_get (l : List Int) {j : Nat} (hj : j < 4) : (cntT l).getD j 0 = ((l.countP fun v => decide (v = ((j : Nat) : Int)) : Nat) : Int) := by
  rw [cntT, getD_map (by simpa using hj)]; simp

theorem cntT_snoc (l : List Int) (v : Nat) (hv : v < 4) : (cntT l).set v ((cntT l).getD v 0 + 1) = cntT (l ++ [(v : Int)]) := by
  rw [cntT_get l hv]
  apply List.ext_getElem?
  intro j
  rw [List.getElem?_set]
  by_cases hj : j < 4
  · simp only [cntT, List.getElem?_map, List.getElem?_range hj, Option.map_some, List.length_map, List.length_range, List.countP_append, List.countP_singleton]
    by_cases h : v = j
    · subst h; simp [hv]
    · have : ¬ (v : Int) = (j : Int) := by omega
      simp [h, this]
  · have h : v ≠ j := by omega
    simp [h, cntT, hj]

theorem okT_get {l : List Int} (h : okT l = true) {i : Nat} (hi : i < l.length) : ∃ v : Nat, v < 4 ∧ l[i] = (v : Int) := by
  have := List.all_eq_true.1 h _ (List.getElem_mem hi)
  simp only [Bool.and_eq_true, decide_eq_true_eq] at this
  obtain ⟨v, hv⟩ := Int.eq_ofNat_of_zero_le this.1
  exact ⟨v, by omega, hv⟩

def k8At (y : K8) (i : Int) : List (Nat × AVal) := k8I y ++ [(20, .int .i64 i)]
def k8Bs (y : K8) (t : List Int) : List Blk := [rowI 4 y.h, rowI 4 t, rowI y.n y.b] ++ k8R y

theorem cntT_bound (l : List Int) {j : Nat} (hj : j < 4) : 0 ≤ (cntT l).getD j 0 ∧ (cntT l).getD j 0 ≤ l.length := by
  rw [cntT_get l hj]
  have := List.countP_le_length (p := fun v => decide (v = ((j : Nat) : Int))) (l := l)
  omega

theorem k8_step {w : Int} {n : Nat} {h b l : List Int} (hl : l.length = n) (ho : okT l = true) (hn : n < 30) {i : Nat} (hi : i ≤ n) :
    Takes Try.prog noSeg ra base 0 (codeOf 3 (false :: p5)) (mkT 150 (k8At ⟨w, n, h, [], b, .slice (.own 3 0 0 1) n none, l⟩ i)) (hp 0 (k8Bs ⟨w, n, h, [], b, .slice (.own 3 0 0 1) n none, l⟩ (cntT (l.take i)))) fun z =>
      (i < n ∧ z = (.normal, mkT 150 (k8At ⟨w, n, h, [], b, .slice (.own 3 0 0 1) n none, l⟩ ((i + 1 : Nat) : Int)), hp 0 (k8Bs ⟨w, n, h, [], b, .slice (.own 3 0 0 1) n none, l⟩ (cntT (l.take (i + 1)))))) ∨
      (i = n ∧ z = (.exit 8, mkT 150 (k8I ⟨w, n, h, [], b, .slice (.own 3 0 0 1) n none, l⟩), hp 0 (k8Bs ⟨w, n, h, [], b, .slice (.own 3 0 0 1) n none, l⟩ (cntT l)))) := by
  have hE := noE_plain
  refine takes_of_tree hE w1 (f := 3) (.inr (by kernel_rfl)) (hp_below _) (k8_round w i n h (cntT (l.take i)) b l) ?_
  rw [toNat_nat]
  by_cases hin : i < n
  · obtain ⟨v, hv, e⟩ := okT_get ho (i := i) (by omega)
    have e1 : l.getD i 0 = (v : Int) := by rw [getD_at (by omega), e]
    have e2 : Int.tmod (v : Int) 4 = (v : Int) := by rw [Int.tmod_eq_emod_of_nonneg (by omega)]; omega
    have e3 : l.take (i + 1) = l.take i ++ [(v : Int)] := by rw [List.take_add_one, List.getElem?_eq_getElem (by omega), e]; rfl
    have e4 : wr .i64 ((cntT (l.take i)).getD v 0 + 1) = (cntT (l.take i)).getD v 0 + 1 := by
      obtain ⟨g1, g2⟩ := cntT_bound (l.take i) hv
      have : (l.take i).length ≤ i := by rw [List.length_take]; omega
      exact wr_in ⟨by omega, by omega⟩
    have e5 := cntT_snoc (l.take i) v hv
    rw [e1, e2, Int.toNat_natCast, e4, e5, ← e3, next64 (by omega)]
    clear e1 e2 e3 e4 e5 e
    simp only [Tree.holds, decide_eq_true_eq, decide_eq_false_iff_not, Bool.and_eq_true]
    refine ⟨fun k1 => ⟨⟨by omega, by omega⟩, hin, ⟨by omega, by omega⟩, hv, ⟨by omega, by omega⟩, hv, .inl ⟨hin, rfl⟩⟩, fun k1 => absurd k1 (by omega)⟩
  · have hi' : i = n := by omega
    subst hi'
    have e : l.take i = l := List.take_of_length_le (by omega)
    rw [e]
    refine ⟨fun k1 => absurd (of_decide_eq_true k1) (by omega), fun _ => .inr ⟨rfl, rfl⟩⟩

theorem k8_takes (y : K8) (hy : k8D.pre y = true) : Takes Try.prog noSeg ra base 0 (.loop (codeOf 3 (false :: p5))) (mkT 150 (k8D.ins y)) (hp 0 (k8D.blks y)) fun z => PostL 150 y z k8D.alts := by
  have hE := noE_plain
  obtain ⟨w, n, h, t, b, V, l⟩ := y
  simp only [k8D, Bool.and_eq_true, decide_eq_true_eq] at hy
  obtain ⟨hV, ho, ht, hn⟩ := hy
  subst ht
  unfold k8V at hV
  split at hV
  · rename_i e
    simp only at e
    subst e
    simp only [List.isEmpty_iff] at hV
    subst hV
    refine takes_loop (fun j ts h' => j = 1 ∧ ts = mkT 150 (k8At ⟨w, n, h, zerosI 4, b, .nils, []⟩ 0) ∧ h' = hp 0 (k8Bs ⟨w, n, h, zerosI 4, b, .nils, []⟩ (zerosI 4))) (fun ts h => by rintro ⟨h, _⟩; omega) (fun j ts h' => ?_) (j := 1) ⟨rfl, rfl, rfl⟩
    rintro ⟨_, rfl, rfl⟩
    refine takes_of_tree hE w1 (f := 3) (.inr (by kernel_rfl)) (hp_below _) (k8_round0 w 0 n h (zerosI 4) b []) ?_
    exact ⟨rfl, cntT [], rfl, rfl⟩
  · rename_i m e
    simp only at e
    subst e
    simp only [Bool.and_eq_true, decide_eq_true_eq] at hV
    obtain ⟨rfl, hl⟩ := hV
    refine takes_loop (fun j ts h' => ∃ i : Nat, i ≤ m ∧ j = m - i + 1 ∧ ts = mkT 150 (k8At ⟨w, m, h, [], b, .slice (.own 3 0 0 1) m none, l⟩ i) ∧ h' = hp 0 (k8Bs ⟨w, m, h, [], b, .slice (.own 3 0 0 1) m none, l⟩ (cntT (l.take i)))) (fun ts h => by rintro ⟨i, _, h, _⟩; omega) (fun j ts h' => ?_) (j := m + 1) ⟨0, Nat.zero_le _, by omega, rfl, rfl⟩
    rintro ⟨i, k1, k2, rfl, rfl⟩
    refine (k8_step hl ho hn k1).mono ?_
    rintro z (⟨g1, rfl⟩ | ⟨g1, rfl⟩)
    · exact ⟨i + 1, by omega, by omega, rfl, rfl⟩
    · exact ⟨cntT l, rfl, rfl⟩
  · cases hV

theorem TC_ok : ToldsOK Try.prog noSeg ra base 0 TC := sumT_ok noT_ok rfl (toldR_ok (c := .loop (codeOf 3 (false :: p5))) (by kernel_rfl) k8_takes)

def evenW (w n : Nat) : Bool := (List.range w).all fun i => (List.range w).all fun k => !decide (wr .i64 ((cntT (turnsL w n)).getD (k + 1) 0 + 1) < (cntT (turnsL w n)).getD (i + 1) 0)
theorem evenW_all : ((List.range 3).all fun w => (List.range 30).all fun n => evenW (w + 1) n) = true := by decide +kernel
theorem evenW_ok {w n i k : Nat} (hw : w < 3) (hn : n < 30) (hi : i < w + 1) (hk : k < w + 1) : decide (wr .i64 ((cntT (turnsL (w + 1) n)).getD (k + 1) 0 + 1) < (cntT (turnsL (w + 1) n)).getD (i + 1) 0) = false := by
  have h1 := List.all_eq_true.1 (List.all_eq_true.1 evenW_all w (List.mem_range.2 hw)) n (List.mem_range.2 hn)
  have h2 := List.all_eq_true.1 (List.all_eq_true.1 h1 i (List.mem_range.2 hi)) k (List.mem_range.2 hk)
  simpa only [Bool.not_eq_true'] using h2
def okTs (w n : Nat) : Bool := okT (turnsL w n)
theorem okTs_all : ((List.range 3).all fun w => (List.range 30).all fun n => okTs (w + 1) n) = true := by decide +kernel
theorem okTs_ok {w n : Nat} (hw : w < 3) (hn : n < 30) : okT (turnsL (w + 1) n) = true := List.all_eq_true.1 (List.all_eq_true.1 okTs_all w (List.mem_range.2 hw)) n (List.mem_range.2 hn)
theorem turnsL_len (w n : Nat) : (turnsL w n).length = n := by simp [turnsL]
end
end Go.Proofs.Ytcgebafffkpmfaa
