/- acc: AccOrder's second loop: whatever is merged next, in the end all are together. -/
import Derived.Test.YtebpekgijakonaaP05h
namespace Go.Proofs.Ytebpekgijakonaa
open Ab

section
variable {xs ch : List Int} {ra : Nat → Nat → Nat × Nat} {base : Nat} {m : Nat} {C : AVal} {hi lo : Int} {x : Ac}

theorem tk_seq {p : List Bool} (hs : codeOf 5 p = .seq (codeOf 5 (false :: p)) (codeOf 5 (true :: p))) {ts : List (Nat × AVal)} {bs : List Blk} {Q R : State → Prop} (h1 : TkO xs ch ra base (false :: p) ts bs R)
    (h2 : ∀ y, R y → Then Try.prog (tabO xs ch) ra base 1 (codeOf 5 (true :: p)) Q y) : TkO xs ch ra base p ts bs Q := by
  unfold TkO; rw [hs]; exact takes_seq (h1.mono h2)

def pB : List Bool := [false, false, true, false, true, true, true, true, true, true, true]

theorem ac_okL {q : Qd} : okL q.ac = true := by
  have h1 := Int.emod_nonneg q.s (show (18446744073709551616 : Int) ≠ 0 by decide)
  have h2 := Int.emod_lt_of_pos q.s (show (0 : Int) < 18446744073709551616 by decide)
  simp only [okL, Qd.ac, h1, h2, decide_true, Bool.and_self]

theorem fold_round (hC : ChO C ch) (hch : ∀ c ∈ ch, inK .u8 c) {qs : List Qd} {t : Qd} (hq : ∀ q ∈ qs, q.ok) (ht : Total qs t) (htn : t.n ≤ 1000) {i : Nat} (hi' : i ≤ 1000) :
    TkO xs ch ra base pB (tsF m C qs.length hi lo i) [x.blk, rowB (qs.map Qd.ac)] fun y =>
      (∃ qs' : List Qd, qs'.length + 1 = qs.length ∧ (∀ q ∈ qs', q.ok) ∧ Total qs' t ∧ y = (.normal, mkT 160 (tsF m C qs'.length hi lo ((i + 1 : Nat) : Int)), hp 0 [x.blk, rowB (qs'.map Qd.ac)])) ∨
      (¬ 1 < qs.length ∧ y = (.exit 2, mkT 160 (tsE m qs.length hi lo), hp 0 [x.blk, rowB (qs.map Qd.ac)])) := by
  have hlen : (qs.length : Int) ≤ 1000 := by have := sumN_ge qs hq; have := ht.n; omega
  have e0 : (qs.map Qd.ac).length = qs.length := List.length_map _
  have f1 := fo1 (ra := ra) (base := base) (xs := xs) (m := m) (hi := hi) (lo := lo) (x := x) hC (qs.map Qd.ac) i
  rw [e0] at f1
  refine tk_seq (p := pB) (by kernel_rfl) f1 ?_
  rintro y (⟨h1, rfl⟩ | ⟨h1, rfl⟩)
  rotate_left
  · exact .inr ⟨h1, rfl⟩
  have body : TkO xs ch ra base (false :: true :: pB) (tsF m C qs.length hi lo i) [x.blk, rowB (qs.map Qd.ac)] fun y =>
      ∃ qs' : List Qd, qs'.length + 1 = qs.length ∧ (∀ q ∈ qs', q.ok) ∧ Total qs' t ∧ y = (.normal, mkT 160 (tsF m C qs'.length hi lo i), hp 0 [x.blk, rowB (qs'.map Qd.ac)]) := by
    unfold TkO
    rw [show codeOf 5 (false :: true :: pB) = .block 3 (codeOf 5 (false :: false :: true :: pB)) by kernel_rfl]
    refine takes_block ?_
    have f2 := fo2 (ra := ra) (base := base) (xs := xs) (m := m) (hi := hi) (lo := lo) (x := x) hC (qs.map Qd.ac) i
    rw [e0] at f2
    refine tk_seq (p := false :: false :: true :: pB) (by kernel_rfl) f2 ?_
    rintro y rfl
    have f3 := fo3 (ra := ra) (base := base) (xs := xs) (m := m) (hi := hi) (lo := lo) (x := x) hC hch (qs.map Qd.ac) i (by rw [e0]; exact h1) (by rw [e0]; omega)
    rw [e0] at f3
    refine tk_seq (p := true :: false :: false :: true :: pB) (by kernel_rfl) f3 ?_
    rintro y ⟨k, hk, rfl⟩
    have hk' : k + 1 < (qs.map Qd.ac).length := by rw [e0]; exact hk
    have g1 := fa1 (ra := ra) (base := base) (xs := xs) (m := m) (hi := hi) (lo := lo) (x := x) hC (qs.map Qd.ac) i hk' (by rw [e0]; omega)
    simp only [List.length_map] at g1
    refine tk_seq (p := true :: true :: false :: false :: true :: pB) (by kernel_rfl) g1 ?_
    rintro y rfl
    have g2 := fa2 (ra := ra) (base := base) (xs := xs) (m := m) (hi := hi) (lo := lo) (x := x) hC (qs.map Qd.ac) i k ((qs.map Qd.ac)[k]'(by omega)) ((qs.map Qd.ac)[k + 1]'hk')
    simp only [List.length_map] at g2
    refine tk_seq (p := true :: true :: true :: false :: false :: true :: pB) (by kernel_rfl) g2 ?_
    rintro y ⟨a', b', hab, rfl⟩
    have g3 := fa3 (ra := ra) (base := base) (xs := xs) (m := m) (hi := hi) (lo := lo) (x := x) hC (qs.map Qd.ac) i hk' (by rw [e0]; omega) a' b'
    simp only [List.length_map] at g3
    refine tk_seq (p := true :: true :: true :: true :: false :: false :: true :: pB) (by kernel_rfl) g3 ?_
    rintro y rfl
    -- the two that are merged
    obtain ⟨p1, q1, l, r, hlr, hll, e1p, e1q⟩ : ∃ p1 q1 l r, qs = l ++ p1 :: q1 :: r ∧ l.length = k ∧ qs[k] = p1 ∧ qs[k + 1] = q1 :=
      ⟨qs[k], qs[k + 1], qs.take k, qs.drop (k + 2), by rw [← List.drop_eq_getElem_cons, ← List.drop_eq_getElem_cons, List.take_append_drop], by rw [List.length_take]; omega, rfl, rfl⟩
    have hp : p1 ∈ qs := by rw [hlr]; simp
    have hq2 : q1 ∈ qs := by rw [hlr]; simp
    rw [List.getElem_map, List.getElem_map, e1p, e1q] at hab
    have hsum : p1.n + q1.n ≤ 1000 := by
      have h3 := ht.n
      rw [hlr] at h3
      simp only [sumN_app, sumN] at h3
      have h4 := sumN_ge l fun q hq' => hq q (by rw [hlr]; simp [hq'])
      have h5 := sumN_ge r fun q hq' => hq q (by rw [hlr]; simp [hq'])
      omega
    obtain ⟨z, hz, hzok, hzm⟩ : ∃ z : Qd, (z = p1.add q1 ∨ z = q1.add p1) ∧ z.ok ∧ merge a' b' = z.ac := by
      rcases hab with ⟨rfl, rfl⟩ | ⟨rfl, rfl⟩
      · exact ⟨_, .inl rfl, add_ok (hq _ hp) (hq _ hq2), merge_ac (hq _ hp) (hq _ hq2) hsum⟩
      · exact ⟨_, .inr rfl, add_ok (hq _ hq2) (hq _ hp), merge_ac (hq _ hq2) (hq _ hp) (by omega)⟩
    have hok : okL a' = true ∧ okL b' = true := by
      rcases hab with ⟨rfl, rfl⟩ | ⟨rfl, rfl⟩ <;> exact ⟨ac_okL, ac_okL⟩
    have hset : ((qs.map Qd.ac).take k ++ (qs.map Qd.ac).drop (k + 1)).set k (merge a' b') = (l ++ z :: r).map Qd.ac := by
      rw [hzm]
      have e1 : (qs.map Qd.ac).take k = l.map Qd.ac := by
        rw [hlr, List.map_append, List.take_append_of_le_length (by simp [hll]), List.take_of_length_le (by simp [hll])]
      have e2 : (qs.map Qd.ac).drop (k + 1) = (q1 :: r).map Qd.ac := by
        rw [hlr, List.map_append, List.drop_append, List.drop_of_length_le (by simp [hll])]
        simp [hll]
      rw [e1, e2, List.set_append_right _ _ (by simp [hll])]
      simp [hll]
    have hkl : k < ((qs.map Qd.ac).take k ++ (qs.map Qd.ac).drop (k + 1)).length := by
      rw [List.length_append, List.length_take, List.length_drop]; omega
    have g4 := fa4 (ra := ra) (base := base) (xs := xs) (m := m) (hi := hi) (lo := lo) (x := x) hC ((qs.map Qd.ac).take k ++ (qs.map Qd.ac).drop (k + 1)) i hkl a' b' hok.1 hok.2
    rw [hset] at g4
    refine g4.mono ?_
    rintro y rfl
    have hq' : ∀ q ∈ l ++ z :: r, q.ok := fun q hm => by
      simp only [List.mem_append, List.mem_cons] at hm
      rcases hm with hm | rfl | hm
      · exact hq q (by rw [hlr]; simp [hm])
      · exact hzok
      · exact hq q (by rw [hlr]; simp [hm])
    refine ⟨l ++ z :: r, ?_, hq', ?_, by rw [List.length_map]⟩
    · have := congrArg List.length hlr
      simp only [List.length_append, List.length_cons] at this ⊢
      omega
    · rw [hlr] at ht; exact ht.step hz
  refine tk_seq (p := true :: pB) (by kernel_rfl) body ?_
  rintro y ⟨qs', l1, l2, l3, rfl⟩
  have f5 := fo5 (ra := ra) (base := base) (xs := xs) (m := m) (hi := hi) (lo := lo) (x := x) hC (qs'.map Qd.ac) i hi'
  rw [List.length_map] at f5
  refine f5.mono ?_
  rintro y rfl
  exact .inl ⟨qs', l1, l2, l3, rfl⟩

theorem fold_loop (hC : ChO C ch) (hch : ∀ c ∈ ch, inK .u8 c) {qs : List Qd} {t : Qd} (hne : qs ≠ []) (hq : ∀ q ∈ qs, q.ok) (ht : Total qs t) (htn : t.n ≤ 1000) :
    Takes Try.prog (tabO xs ch) ra base 1 (.loop (codeOf 5 pB)) (mkT 160 (tsF m C qs.length hi lo 0)) (hp 0 [x.blk, rowB (qs.map Qd.ac)]) fun y => y = (.exit 2, mkT 160 (tsE m 1 hi lo), hp 0 [x.blk, rowB [t.ac]]) := by
  have hlen : (qs.length : Int) ≤ 1000 := by have := sumN_ge qs hq; have := ht.n; omega
  refine takes_loop (fun j ts h => ∃ (i : Nat) (qs' : List Qd), qs' ≠ [] ∧ (∀ q ∈ qs', q.ok) ∧ Total qs' t ∧ j = qs'.length ∧ i + qs'.length = qs.length ∧ ts = mkT 160 (tsF m C qs'.length hi lo i) ∧ h = hp 0 [x.blk, rowB (qs'.map Qd.ac)])
    (fun ts h => by rintro ⟨i, qs', h1, _, _, h2, _⟩; exact h1 (List.eq_nil_of_length_eq_zero h2.symm)) (fun j ts h => ?_) (j := qs.length) ⟨0, qs, hne, hq, ht, rfl, by omega, rfl, rfl⟩
  rintro ⟨i, qs', h1, h2, h3, h4, h5, rfl, rfl⟩
  refine (fold_round hC hch h2 h3 htn (by omega)).mono ?_
  rintro y (⟨qs₂, k1, k2, k3, rfl⟩ | ⟨k1, rfl⟩)
  · by_cases hj : j = 0
    · exfalso
      have : qs₂ = [] := List.eq_nil_of_length_eq_zero (by omega)
      subst this
      obtain ⟨⟨x, hx, _⟩, _⟩ := k3.a
      simp at hx
    · exact ⟨i + 1, qs₂, fun e => by subst e; simp at k1; omega, k2, k3, by omega, by omega, rfl, rfl⟩
  · have hl1 : qs'.length = 1 := by
      have : qs'.length ≠ 0 := fun e => h1 (List.eq_nil_of_length_eq_zero e)
      omega
    obtain ⟨q, rfl⟩ := List.length_eq_one_iff.1 hl1
    rw [total_one h3]
    rfl
end

end Go.Proofs.Ytebpekgijakonaa
