/- front: FrontRises: the plain law, and its loops. -/
import Derived.Test.YtnnbbjfbhigcfaaP23a
import Derived.Test.YtnnbbjfbhigcfaaT23b
set_option linter.unusedSimpArgs false
namespace Go.Proofs.Ytnnbbjfbhigcfaa
open Ab

theorem leastL_le : ∀ (l : List Int) (v : Int), leastL v l ≤ v ∧ ∀ y ∈ l, leastL v l ≤ y
  | [], v => ⟨Int.le_refl _, fun y hy => by simp at hy⟩
  | x :: l, v => by
    have e : leastL v (x :: l) = leastL (if x < v then x else v) l := rfl
    obtain ⟨h1, h2⟩ := leastL_le l (if x < v then x else v)
    rw [e]
    generalize leastL (if x < v then x else v) l = r at *
    refine ⟨by split at h1 <;> omega, fun y hy => ?_⟩
    rcases List.mem_cons.1 hy with rfl | hy
    · split at h1 <;> omega
    · exact h2 y hy

theorem le_leastL : ∀ (l : List Int) (v a : Int), a ≤ v → (∀ y ∈ l, a ≤ y) → a ≤ leastL v l
  | [], _, _, h, _ => h
  | x :: l, v, a, h, hl => by
    have e : leastL v (x :: l) = leastL (if x < v then x else v) l := rfl
    rw [e]
    refine le_leastL l _ a ?_ fun y hy => hl y (by simp [hy])
    have := hl x (by simp)
    split <;> omega

theorem first_mem {x : Fr} (h : okFr x = true) : x.c.getD 0 0 ∈ x.l := by
  obtain ⟨h1, h2, h3⟩ := okFr_facts h
  rw [getD_at (by omega), Fr.l]
  exact List.mem_take_iff_getElem.2 ⟨0, by omega, rfl⟩

theorem minF_le {x : Fr} : ∀ y ∈ x.l, minF x ≤ y := (leastL_le _ _).2
theorem le_minF {x : Fr} (h : okFr x = true) {a : Int} (ha : ∀ y ∈ x.l, a ≤ y) : a ≤ minF x := le_leastL _ _ _ (ha _ (first_mem h)) ha

theorem okM_facts {x : Fr} (h : okM x = true) : okFr x = true ∧ (∀ v ∈ x.c, 0 ≤ v ∧ v ≤ 1152921504606846976) ∧ 0 ≤ x.t ∧ x.t ≤ 1152921504606846976 := by
  simp only [okM, inT, Bool.and_eq_true, List.all_eq_true, decide_eq_true_eq] at h
  exact ⟨h.1, h.2.1, h.2.2.1, h.2.2.2⟩
theorem okM_of {x : Fr} (h : okFr x = true) (h2 : ∀ v ∈ x.c, 0 ≤ v ∧ v ≤ 1152921504606846976) (h3 : 0 ≤ x.t) (h4 : x.t ≤ 1152921504606846976) : okM x = true := by
  simp only [okM, inT, Bool.and_eq_true, List.all_eq_true, decide_eq_true_eq]
  exact ⟨h, h2, h3, h4⟩

theorem minF_in {x : Fr} (h : okM x = true) : 0 ≤ minF x ∧ minF x ≤ 1152921504606846976 := by
  obtain ⟨h1, h2, _, _⟩ := okM_facts h
  have hm := first_mem h1
  have := minF_le _ hm
  refine ⟨le_minF h1 fun y hy => (h2 y (List.mem_of_mem_take hy)).1, ?_⟩
  have := (h2 _ (List.mem_of_mem_take hm)).2
  omega

/-- what a mark does -/
theorem mark_cases {x : Fr} (h : okFr x = true) (i a : Int) : x.mark i a = x ∨ (markE x.l i a = 0 ∧ 0 ≤ i ∧ i < x.n ∧ x.c.getD i.toNat 0 ≤ a ∧ a ≤ 1152921504606846976 ∧ x.mark i a = { x with c := x.c.set i.toNat a }) := by
  obtain ⟨h1, h2, h3⟩ := okFr_facts h
  have hl := l_len h
  by_cases h0 : markE x.l i a = 0
  · refine .inr ⟨h0, ?_⟩
    have h0' := h0
    rw [markE] at h0'
    split at h0'
    · cases h0'
    · rename_i k1
      split at h0'
      · cases h0'
      · rename_i k2
        have hg : x.l.getD i.toNat 0 = x.c.getD i.toNat 0 := by rw [Fr.l, getD_takeI (by omega)]
        rw [hg] at k2
        exact ⟨by omega, by omega, by omega, by omega, by rw [Fr.mark, h0, putI, if_pos rfl]⟩
  · exact .inl (by rw [Fr.mark, putI, if_neg h0])

theorem mark_ok {x : Fr} (h : okM x = true) (i a : Int) : okM (x.mark i a) = true ∧ minF x ≤ minF (x.mark i a) := by
  obtain ⟨h1, h2, h3, h4⟩ := okM_facts h
  obtain ⟨g1, g2, g3⟩ := okFr_facts h1
  rcases mark_cases h1 i a with e | ⟨_, k1, k2, k3, k4, e⟩
  · rw [e]; exact ⟨h, Int.le_refl _⟩
  · rw [e]
    have hlt : i.toNat < x.c.length := by omega
    have hmem : x.c[i.toNat] ∈ x.c := List.getElem_mem _
    rw [getD_at hlt] at k3
    have ok1 : okFr { x with c := x.c.set i.toNat a } = true := by
      simp only [okFr, List.length_set, Bool.and_eq_true, decide_eq_true_eq]; exact ⟨g1, g2, g3⟩
    refine ⟨okM_of ok1 (fun v hv => ?_) h3 h4, le_minF ok1 fun y hy => ?_⟩
    · rcases List.mem_or_eq_of_mem_set hv with hv | rfl
      · exact h2 v hv
      · have := (h2 _ hmem).1
        exact ⟨by omega, k4⟩
    · obtain ⟨k, hk, rfl⟩ := List.mem_take_iff_getElem.1 hy
      simp only [List.length_set] at hk
      have hml : ∀ (j : Nat) (hj : j < x.c.length), j < x.n.toNat → minF x ≤ x.c[j] := fun j hj hjn => minF_le _ (List.mem_take_iff_getElem.2 ⟨j, by omega, rfl⟩)
      rw [List.getElem_set]
      split
      · have := hml i.toNat hlt (by omega); omega
      · exact hml k (by omega) (by omega)

theorem tell_facts {T : Tb} {x : Fr} (h : okM x = true) (s : Sl) : tellB T x s = decide (x.t < tellV T x s) ∧ ¬ tellV T x s < x.t ∧ (tellB T x s = true → allGe x.l (tellV T x s) = true ∧ allGe (s.l T) (tellV T x s) = true) ∧ 0 ≤ tellV T x s ∧ tellV T x s ≤ 1152921504606846976 ∧ tellV T x s ≤ max (minF x) x.t := by
  obtain ⟨h1, h2, h3, h4⟩ := okM_facts h
  have hm := minF_in h
  obtain ⟨a1, a2⟩ := leastL_le (s.l T) (minF x)
  unfold tellB tellV
  have ha : tellA T x s = leastL (minF x) (s.l T) := rfl
  rw [← ha] at a1 a2
  by_cases k : x.t < tellA T x s
  · rw [if_pos k]
    refine ⟨rfl, by omega, fun _ => ⟨?_, ?_⟩, by omega, by omega, by omega⟩
    · exact List.all_eq_true.2 fun y hy => by have := minF_le (x := x) y hy; rw [decide_eq_true_eq]; omega
    · exact List.all_eq_true.2 fun y hy => by have := a2 y hy; rw [decide_eq_true_eq]; omega
  · rw [if_neg k]
    refine ⟨by rw [decide_eq_false k]; exact (decide_eq_false (by omega)).symm, by omega, fun hh => absurd (of_decide_eq_true hh) k, h3, h4, by omega⟩

structure Tb.Ok (T : Tb) : Prop where
  i : T.i.length = T.w.length
  a : T.a.length = T.w.length
  n : T.ns.length = T.w.length
  h : ∀ k, k < T.w.length → (T.hs k).length = T.ns.getD k 0

section
variable {T : Tb} {ra : Nat → Nat → Nat × Nat} {base : Nat}

theorem okV_cases {V : AVal} (h : okV T V = true) : V = .nils ∨ V = .slice (.ro 0 0 0 0) T.w.length none := by
  unfold okV at h
  split at h
  · exact .inl rfl
  · rename_i n
    simp only [decide_eq_true_eq] at h
    subst h; exact .inr rfl
  · cases h

theorem wT : ExecOK Try.prog (tabF T) ra base (W (tabF T) (S3 T) noL) := wS S3_ok

theorem of_takes (y : R2) (hx : okFr y.x = true) (hy : allGe y.x.l y.a = true) : Takes Try.prog (tabF T) ra base 0 (.loop (codeOf 3 (false :: p2))) (mkT 128 (r2Ins y ++ [(13, .int .i64 0)])) (hp 0 [y.x.blk]) fun z => PostL 128 y z r2D.alts := by
  have hE := tabF_plain T
  obtain ⟨h1, h2, h3⟩ := okFr_facts hx
  have hl := l_len hx
  refine takes_loop (fun j ts h => ∃ i : Nat, (i : Int) ≤ y.x.n ∧ j = y.x.n.toNat - i + 1 ∧ ts = mkT 128 (r2Ins y ++ [(13, .int .i64 i)]) ∧ h = hp 0 [y.x.blk]) (fun ts h => by rintro ⟨i, _, h, _⟩; omega) (fun j ts h' => ?_) (j := y.x.n.toNat + 1) ⟨0, by omega, rfl, rfl, rfl⟩
  rintro ⟨i, g1, g2, rfl, rfl⟩
  have hw : wr .i64 ((i : Int) + 1) = ((i + 1 : Nat) : Int) := by rw [wr_in ⟨by omega, by omega⟩]; omega
  have hge : (i : Int) < y.x.n → ¬ ofL y.x.l i < y.a := fun k => by
    have hi : i < y.x.l.length := by omega
    rw [ofL, if_neg (by omega), Int.toNat_natCast, getD_at hi]
    have := of_decide_eq_true (List.all_eq_true.1 hy _ (List.getElem_mem hi))
    omega
  obtain ⟨n, x, lo, i0, s, a⟩ := y
  simp only at hx hy h1 h2 h3 hl g1 g2 hge
  cases s with
  | nil =>
    refine takes_of_tree hE wT (f := 3) (.inr (by kernel_rfl)) (hp_below _) (of_round_n T n x lo i0 a i) ?_
    simp only [Tree.holds, decide_true, Bool.and_self, Bool.and_true, Bool.true_and, true_and, hx, decide_eq_true_eq, decide_eq_false_iff_not, hw]
    refine ⟨fun k1 => ⟨fun k2 => absurd k2 (hge k1), fun _ => ⟨i + 1, by omega, by omega, rfl, rfl⟩⟩, fun k1 => ⟨(), trivial, rfl⟩⟩
  | ro p m =>
    refine takes_of_tree hE wT (f := 3) (.inr (by kernel_rfl)) (hp_below _) (of_round_r T n x lo i0 a i p m) ?_
    simp only [Tree.holds, decide_true, Bool.and_self, Bool.and_true, Bool.true_and, true_and, hx, decide_eq_true_eq, decide_eq_false_iff_not, hw]
    refine ⟨fun k1 => ⟨fun k2 => absurd k2 (hge k1), fun _ => ⟨i + 1, by omega, by omega, rfl, rfl⟩⟩, fun k1 => ⟨(), trivial, rfl⟩⟩

theorem hold_takes (y : R2) (hs : okS T y.s = true) (hy : allGe (y.s.l T) y.a = true) : Takes Try.prog (tabF T) ra base 0 (.loop (codeOf 3 (false :: p3))) (mkT 128 (r2Ins y ++ [(14, .int .i64 0)])) (hp 0 [y.x.blk]) fun z => PostL 128 y z (r3D T).alts := by
  have hE := tabF_plain T
  obtain ⟨n, x, lo, i0, s, a⟩ := y
  simp only at hs hy
  cases s with
  | nil =>
    refine takes_loop (fun j ts h => j = 1 ∧ ts = mkT 128 (r2Ins ⟨n, x, lo, i0, .nil, a⟩ ++ [(14, .int .i64 0)]) ∧ h = hp 0 [x.blk]) (fun ts h => by rintro ⟨h, _⟩; omega) (fun j ts h' => ?_) (j := 1) ⟨rfl, rfl, rfl⟩
    rintro ⟨_, rfl, rfl⟩
    refine takes_of_tree hE wT (f := 3) (.inr (by kernel_rfl)) (hp_below _) (hold_round_n T n x lo i0 a 0) ?_
    exact ⟨rfl, (), trivial, rfl⟩
  | ro p m =>
    simp only [okS, Bool.and_eq_true, decide_eq_true_eq] at hs
    refine takes_loop (fun j ts h => ∃ i : Nat, i ≤ m ∧ j = m - i + 1 ∧ ts = mkT 128 (r2Ins ⟨n, x, lo, i0, .ro p m, a⟩ ++ [(14, .int .i64 i)]) ∧ h = hp 0 [x.blk]) (fun ts h => by rintro ⟨i, _, h, _⟩; omega) (fun j ts h' => ?_) (j := m + 1) ⟨0, by omega, rfl, rfl, rfl⟩
    rintro ⟨i, g1, g2, rfl, rfl⟩
    have hw : wr .i64 ((i : Int) + 1) = ((i + 1 : Nat) : Int) := by rw [wr_in ⟨by omega, by omega⟩]; omega
    have hge : i < m → ¬ (T.hs p).getD i 0 < a := fun k => by
      have hi : i < (T.hs p).length := by omega
      rw [getD_at hi]
      have := of_decide_eq_true (List.all_eq_true.1 hy (T.hs p)[i] (List.mem_take_iff_getElem.2 ⟨i, by omega, rfl⟩))
      omega
    refine takes_of_tree hE wT (f := 3) (.inr (by kernel_rfl)) (hp_below _) (hold_round_r T n x lo i0 a i p m) ?_
    simp only [Tree.holds, decide_true, Bool.and_self, Bool.and_true, Bool.true_and, true_and, decide_eq_true_eq, decide_eq_false_iff_not, hw, toNat_nat, Bool.and_eq_true]
    refine ⟨fun k1 => ⟨by omega, by omega, fun k2 => absurd k2 (hge (by omega)), fun _ => ⟨i + 1, by omega, by omega, rfl, rfl⟩⟩, fun k1 => ⟨(), trivial, rfl⟩⟩

theorem TI_ok : ToldsOK Try.prog (tabF T) ra base 0 (TI T) := by
  refine sumT_ok (sumT_ok noT_ok rfl (toldR_ok (c := .loop (codeOf 3 (false :: p3))) (by kernel_rfl) fun y hy => ?_)) rfl (toldR_ok (c := .loop (codeOf 3 (false :: p2))) (by kernel_rfl) fun y hy => ?_)
  · simp only [r3D, Bool.and_eq_true] at hy
    exact hold_takes y hy.1 hy.2
  · simp only [r2D, Bool.and_eq_true] at hy
    exact of_takes y hy.1 hy.2

/-- the first ones are at the end -/
def firstIs (x : Fr) (k : Nat) : Bool := (x.c.take k).all fun v => decide (v = 1152921504606846976)

theorem last_takes (x : Fr) (hx : okM x = true) : Takes Try.prog (tabF T) ra base 0 (.loop (codeOf 3 (false :: p4))) (mkT 128 (r4D.ins x)) (hp 0 [x.blk]) fun z => PostL 128 x z r4D.alts := by
  have hE := tabF_plain T
  refine takes_loop (fun j ts h => ∃ (i : Nat) (x' : Fr), (i : Int) ≤ x.n ∧ j = x.n.toNat - i + 1 ∧ okM x' = true ∧ x'.n = x.n ∧ x'.t = x.t ∧ firstIs x' i = true ∧ ts = mkT 128 [(5, .int .i64 x.n), (6, .ptr (.own 0 0 0 0)), (15, .int .i64 i)] ∧ h = hp 0 [x'.blk]) (fun ts h => by rintro ⟨i, x', _, h, _⟩; omega) (fun j ts h' => ?_) (j := x.n.toNat + 1)
    ⟨0, x, by have := (okFr_facts (okM_facts hx).1).2.1; omega, rfl, hx, rfl, rfl, rfl, rfl, rfl⟩
  rintro ⟨i, x', g1, g2, g3, g4, g5, g6, rfl, rfl⟩
  obtain ⟨h1, h2, h3, h4⟩ := okM_facts g3
  obtain ⟨a1, a2, a3⟩ := okFr_facts h1
  have hw : wr .i64 ((i : Int) + 1) = ((i + 1 : Nat) : Int) := by rw [wr_in ⟨by omega, by omega⟩]; omega
  have hl := l_len h1
  rw [← g4] at g1 g2 ⊢
  refine takes_of_tree hE wT (f := 3) (.inr (by kernel_rfl)) (hp_below _) (last_round T x' i) ?_
  simp only [Tree.holds, decide_true, Bool.and_self, Bool.and_true, Bool.true_and, true_and, h1, decide_eq_true_eq, decide_eq_false_iff_not, hw, Bool.not_eq_true', Bool.not_eq_false']
  have hm : (i : Int) < x'.n → markE x'.l i 1152921504606846976 = 0 := fun k => by
    have hi : i < x'.c.length := by omega
    rw [markE, if_neg (by omega), Int.toNat_natCast, Fr.l, getD_takeI (by omega), getD_at hi]
    have := (h2 _ (List.getElem_mem hi)).2
    rw [if_neg (by omega)]
  refine ⟨fun k1 => ⟨fun k2 => absurd (hm k1) k2, fun _ => ?_⟩, fun k1 => ?_⟩
  · obtain ⟨m1, _⟩ := mark_ok g3 i 1152921504606846976
    refine ⟨i + 1, x'.mark i 1152921504606846976, by omega, by omega, m1, rfl, g5, ?_, rfl, rfl⟩
    have e : x'.mark i 1152921504606846976 = { x' with c := x'.c.set i 1152921504606846976 } := by
      rw [Fr.mark, hm k1, putI, if_pos rfl, Int.toNat_natCast]
    rw [e]
    refine List.all_eq_true.2 fun v hv => ?_
    obtain ⟨k, hk, rfl⟩ := List.mem_take_iff_getElem.1 hv
    simp only [List.length_set] at hk
    rw [List.getElem_set]
    split
    · rfl
    · exact List.all_eq_true.1 g6 _ (List.mem_take_iff_getElem.2 ⟨k, by omega, rfl⟩)
  · have hin : x'.n.toNat = i := by omega
    exact ⟨x', ⟨g3, by rw [allIs, Fr.l, hin]; exact g6, g5, g4⟩, rfl⟩
end

end Go.Proofs.Ytnnbbjfbhigcfaa
