/- front: FrontOrder: the last loop; the whole. -/
import Derived.Test.YtnnbbjfbhigcfaaP23d
set_option linter.unusedSimpArgs false
namespace Go.Proofs.Ytnnbbjfbhigcfaa
open Ab

variable {T : Tb} {N : Int}
section
variable {ra : Nat → Nat → Nat × Nat} {base : Nat}

theorem re_takes (a : RE) (hx : okFr a.x = true) (hn : a.x.n = a.N) (h1 : a.lx = a.x.l) (h2 : a.ly = a.x.l) :
    Takes Try.prog (tabF T) ra base 0 (.loop (codeOf 4 (false :: q4))) (mkT 178 (reI a 1152921504606846976 ++ [(14, .int .i64 0)])) (hp 0 (reB a)) fun z => PostL 178 a z reD.alts := by
  have hE := tabF_plain T
  have hl := l_len hx
  obtain ⟨g1, g2, g3⟩ := okFr_facts hx
  refine takes_loop (fun j ts h => ∃ i : Nat, (i : Int) ≤ a.N ∧ j = a.N.toNat - i + 1 ∧ ts = mkT 178 (reI a (leastL 1152921504606846976 (a.x.l.take i)) ++ [(14, .int .i64 i)]) ∧ h = hp 0 (reB a)) (fun ts h => by rintro ⟨i, _, h, _⟩; omega) (fun j ts h' => ?_) (j := a.N.toNat + 1) ⟨0, by omega, rfl, rfl, rfl⟩
  rintro ⟨i, k1, k2, rfl, rfl⟩
  have hwi : wr .i64 ((i : Int) + 1) = ((i + 1 : Nat) : Int) := by rw [wr_in ⟨by omega, by omega⟩]; omega
  refine takes_of_tree hE w4 (f := 4) (.inr (by kernel_rfl)) (hp_below _) (re_round T a _ i) ?_
  rw [toNat_nat, h1, h2]
  have hof : (i : Int) < a.N → ofL a.x.l i = a.x.l.getD i 0 := fun k => by rw [ofL, if_neg (by omega), Int.toNat_natCast]
  simp only [Tree.holds, decide_true, Bool.and_self, Bool.and_true, Bool.true_and, true_and, hx, decide_eq_true_eq, decide_eq_false_iff_not, Bool.and_eq_true, hwi, Bool.not_true, reduceCtorEq, false_implies, true_implies, Bool.not_eq_true', Bool.not_eq_false']
  refine ⟨fun q1 => ⟨by omega, by omega, ⟨by omega, by omega⟩, by omega, ⟨by omega, by omega⟩, by omega, ⟨by omega, by omega⟩, by omega, fun q2 => absurd (hof q1) q2, fun _ => ⟨⟨by omega, by omega⟩, by omega, ?_⟩⟩, fun q1 => ?_⟩
  · refine ⟨i + 1, by omega, by omega, ?_, ?_⟩
    · rw [leastL_snoc _ _ (by omega)]; rfl
    · simp only [reB, h1, h2]; rfl
  · have e : a.x.l.take i = a.x.l := List.take_of_length_le (by omega)
    refine ⟨(), trivial, ?_⟩
    rw [e]; rfl

theorem TA_ok (hw : ∀ v ∈ T.w, 0 ≤ v ∧ v < 256) : ToldsOK Try.prog (tabF T) ra base 0 (TA T) := by
  refine sumT_ok (sumT_ok (sumT_ok noT_ok rfl (toldR_ok (c := .loop (codeOf 4 (false :: q4))) (by kernel_rfl) fun a ha => ?_)) rfl (toldR_ok (c := .loop (codeOf 4 (false :: q2))) (by kernel_rfl) fun a ha => ?_)) rfl (toldR_ok (c := .loop (codeOf 4 (false :: q1))) (by kernel_rfl) fun a ha => ?_)
  · simp only [reD, Bool.and_eq_true, decide_eq_true_eq] at ha
    exact re_takes a ha.1 ha.2.1 ha.2.2.2.1 ha.2.2.2.2
  · simp only [rbD, Bool.and_eq_true] at ha
    exact rb_takes hw a ha.1 ha.2.1 ha.2.2
  · simp only [raD, Bool.and_eq_true] at ha
    have hN : 1 ≤ a.N := by
      obtain ⟨s1, s2, _, _⟩ := st_facts ha.2.1
      have := (okFr_facts s1).2.1
      omega
    exact ra_takes hw a ha.1 ha.2.1 hN

theorem new_st (h : newOk N = true) : st N ⟨[0, 0, 0, 0, 0, 0, 0, 0, 0, 0, 0, 0, 0, 0, 0, 0], N, 0⟩ (wantL T N 0) = true := by
  have hm := new_ok h
  obtain ⟨h1, h2⟩ := newOk_iff.1 h
  refine st_of (okM_facts hm).1 rfl rfl ?_
  show ([0, 0, 0, 0, 0, 0, 0, 0, 0, 0, 0, 0, 0, 0, 0, 0] : List Int).take N.toNat = _
  have e : wantL T N 0 = List.replicate N.toNat 0 := by
    rw [wantL]
    have : ∀ M : Nat, (List.range M).map (fun k => acc T N k 0) = List.replicate M 0 := fun M => by
      apply List.ext_getElem?
      intro k
      simp only [List.getElem?_map, List.getElem?_replicate]
      by_cases hk : k < M
      · simp [hk, acc]
      · simp [hk]
    exact this _
  rw [e]
  have : ([0, 0, 0, 0, 0, 0, 0, 0, 0, 0, 0, 0, 0, 0, 0, 0] : List Int) = List.replicate 16 0 := rfl
  rw [this, List.take_replicate]
  congr 1; omega

/-- marks that may be -/
theorem acc_in (k : Nat) : ∀ i : Nat, 0 ≤ acc T N k i ∧ acc T N k i ≤ 1152921504606846976
  | 0 => ⟨by simp [acc], by simp [acc]⟩
  | i + 1 => by
    have ih := acc_in k i
    simp only [acc]
    split
    · rw [stepM]; split <;> omega
    · exact ih

theorem want_least {x : Fr} {i : Nat} (h : st N x (wantL T N i) = true) : minF x = leastL 1152921504606846976 x.l ∧ 0 ≤ minF x := by
  obtain ⟨h1, h2, h3, h4⟩ := st_facts h
  have hin : ∀ v ∈ x.l, 0 ≤ v ∧ v ≤ 1152921504606846976 := fun v hv => by
    rw [h4, wantL] at hv
    obtain ⟨k, _, rfl⟩ := List.mem_map.1 hv
    exact acc_in k i
  have hm := first_mem h1
  obtain ⟨a1, a2⟩ := leastL_le x.l 1152921504606846976
  have b1 : leastL 1152921504606846976 x.l ≤ minF x := le_minF h1 a2
  have b2 : minF x ≤ leastL 1152921504606846976 x.l := le_leastL _ _ _ (by have := minF_le _ hm; have := (hin _ hm).2; omega) fun y hy => minF_le y hy
  exact ⟨by omega, le_minF h1 fun y hy => (hin y hy).1⟩

theorem tell_zero {x : Fr} (h0 : x.t = 0) (hm : 0 ≤ minF x) : tellV T x .nil = minF x ∧ tellB T x .nil = decide (0 < minF x) := by
  have e : tellA T x .nil = minF x := rfl
  rw [tellV, tellB, e, h0]
  refine ⟨?_, rfl⟩
  split <;> omega

theorem minF_t (x : Fr) (t : Int) : minF ⟨x.c, x.n, t⟩ = minF x := rfl

theorem order_gives (hw : ∀ v ∈ T.w, 0 ≤ v ∧ v < 256) {V : AVal} (hV : okV T V = true) {b : Int} (hb : 0 ≤ b ∧ b < 256) :
    Gives Try.prog (tabF T) ra base 0 4 [.int .u8 b, V] (hp 0 []) fun v _ => v = .bool true := by
  have hE := tabF_plain T
  have hbm : wr .i64 (Int.tmod b 16) = b % 16 := by rw [Int.tmod_eq_emod_of_nonneg hb.1, wr_in ⟨by omega, by omega⟩]
  have hn : newOk (wr .i64 (1 + wr .i64 (Int.tmod b 16))) = true := by
    rw [hbm, wr_in ⟨by omega, by omega⟩]; exact newOk_iff.2 ⟨by omega, by omega⟩
  rcases okV_cases hV with rfl | rfl
  · refine gives_of_treeQ hE w4 (TA_ok hw) (hp_below _) (order_call0 T b) ?_
    generalize wr .i64 (1 + wr .i64 (Int.tmod b 16)) = N at *
    have n1 := new_st (T := T) hn
    have n2 := (st_facts n1).1
    have v1 : okVm T .nils = true := rfl
    simp only [TreeQ.holds, decide_true, Bool.and_self, Bool.and_true, Bool.true_and, true_and, hn, v1, n1, n2, Bool.not_true, reduceCtorEq, false_implies, and_true, true_implies, forall_const]
    intro y1 hy1
    obtain ⟨a1, a2, a3, a4⟩ := st_facts hy1
    obtain ⟨a5, a6, a7⟩ := okFr_facts a1
    obtain ⟨a8, a9⟩ := want_least hy1
    simp only [a1, a2, a3, n1, decide_true, Bool.and_self, Bool.and_true, Bool.true_and, true_and]
    intro y2 hy2
    obtain ⟨b1, b2, b3, b4⟩ := st_facts hy2
    obtain ⟨b5, b6, b7⟩ := okFr_facts b1
    obtain ⟨b8, b9⟩ := want_least hy2
    have hll : y2.l = y1.l := by rw [b4, a4]
    obtain ⟨t1, t2⟩ := tell_zero (T := T) a3 a9
    obtain ⟨u1, u2⟩ := tell_zero (T := T) b3 b9
    have e1 : minF y1 = leastL 1152921504606846976 y1.l := a8
    have e2 : minF y2 = leastL 1152921504606846976 y1.l := by rw [b8, hll]
    rw [e1] at t1 t2 a9
    rw [e2] at u1 u2
    have m1 : ∀ t, minF ⟨y1.c, N, t⟩ = leastL 1152921504606846976 y1.l := fun t => by
      have : minF ⟨y1.c, y1.n, t⟩ = minF y1 := rfl
      rw [a2] at this; rw [this, e1]
    have m2 : ∀ t, minF ⟨y2.c, y2.n, t⟩ = leastL 1152921504606846976 y1.l := fun t => e2
    have d1 : decide (1 ≤ N) = true := decide_eq_true (by omega)
    have d2 : decide (N ≤ 16) = true := decide_eq_true (by omega)
    have d3 : decide (1 ≤ y2.n) = true := decide_eq_true b6
    have d4 : decide (y2.n ≤ 16) = true := decide_eq_true b7
    have d5 : decide (y2.n.toNat = N.toNat) = true := decide_eq_true (by rw [b2])
    simp only [d1, d2, d3, d4, d5, m1, m2, t1, t2, u1, u2, hll, b1, a5, b5, decide_true, Bool.and_self, Bool.and_true, Bool.true_and, true_and, reduceCtorEq, false_implies, and_true, true_implies]
    exact ⟨_, rfl, rfl⟩
  · refine gives_of_treeQ hE w4 (TA_ok hw) (hp_below _) (order_call T T.w.length b) ?_
    generalize wr .i64 (1 + wr .i64 (Int.tmod b 16)) = N at *
    have n1 := new_st (T := T) hn
    have n2 := (st_facts n1).1
    have hm0 : 0 ≤ (if 60 < (T.w.length : Int) then (60 : Int) else (T.w.length : Int)) ∧ (if 60 < (T.w.length : Int) then (60 : Int) else (T.w.length : Int)) ≤ (T.w.length : Int) ∧ (if 60 < (T.w.length : Int) then (60 : Int) else (T.w.length : Int)) ≤ 60 := by split <;> omega
    generalize (if 60 < (T.w.length : Int) then (60 : Int) else (T.w.length : Int)) = M at *
    have v1 : okVm T (.slice (.ro 0 0 0 0) M.toNat none) = true := by
      simp only [okVm, Bool.and_eq_true, decide_eq_true_eq]; omega
    have v2 : decide (0 ≤ M) = true := decide_eq_true hm0.1
    have v3 : decide (M ≤ (T.w.length : Int)) = true := decide_eq_true hm0.2.1
    simp only [TreeQ.holds, decide_true, Bool.and_self, Bool.and_true, Bool.true_and, true_and, hn, v1, v2, v3, n1, n2, Bool.not_true, reduceCtorEq, false_implies, and_true, true_implies, forall_const]
    intro y1 hy1
    obtain ⟨a1, a2, a3, a4⟩ := st_facts hy1
    obtain ⟨a5, a6, a7⟩ := okFr_facts a1
    obtain ⟨a8, a9⟩ := want_least hy1
    simp only [a1, a2, a3, n1, decide_true, Bool.and_self, Bool.and_true, Bool.true_and, true_and]
    intro y2 hy2
    obtain ⟨b1, b2, b3, b4⟩ := st_facts hy2
    obtain ⟨b5, b6, b7⟩ := okFr_facts b1
    obtain ⟨b8, b9⟩ := want_least hy2
    have hll : y2.l = y1.l := by rw [b4, a4]
    obtain ⟨t1, t2⟩ := tell_zero (T := T) a3 a9
    obtain ⟨u1, u2⟩ := tell_zero (T := T) b3 b9
    have e1 : minF y1 = leastL 1152921504606846976 y1.l := a8
    have e2 : minF y2 = leastL 1152921504606846976 y1.l := by rw [b8, hll]
    rw [e1] at t1 t2 a9
    rw [e2] at u1 u2
    have m1 : ∀ t, minF ⟨y1.c, N, t⟩ = leastL 1152921504606846976 y1.l := fun t => by
      have : minF ⟨y1.c, y1.n, t⟩ = minF y1 := rfl
      rw [a2] at this; rw [this, e1]
    have m2 : ∀ t, minF ⟨y2.c, y2.n, t⟩ = leastL 1152921504606846976 y1.l := fun t => e2
    have d1 : decide (1 ≤ N) = true := decide_eq_true (by omega)
    have d2 : decide (N ≤ 16) = true := decide_eq_true (by omega)
    have d3 : decide (1 ≤ y2.n) = true := decide_eq_true b6
    have d4 : decide (y2.n ≤ 16) = true := decide_eq_true b7
    have d5 : decide (y2.n.toNat = N.toNat) = true := decide_eq_true (by rw [b2])
    simp only [d1, d2, d3, d4, d5, m1, m2, t1, t2, u1, u2, hll, b1, a5, b5, decide_true, Bool.and_self, Bool.and_true, Bool.true_and, true_and, reduceCtorEq, false_implies, and_true, true_implies]
    exact ⟨_, rfl, rfl⟩
end

end Go.Proofs.Ytnnbbjfbhigcfaa
