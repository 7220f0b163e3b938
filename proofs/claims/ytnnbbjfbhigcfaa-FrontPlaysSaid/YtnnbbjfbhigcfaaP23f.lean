/- front: FrontPlays: the document's functions, and makers, keep their contracts. -/
import Derived.Test.YtnnbbjfbhigcfaaP23e
import Derived.Test.YtnnbbjfbhigcfaaT23f
set_option linter.unusedSimpArgs false
namespace Go.Proofs.Ytnnbbjfbhigcfaa
open Ab

section
variable {T : Tb} {ra : Nat → Nat → Nat × Nat} {base : Nat}

theorem w0 {L : Loops} (hL : LoopsOK Try.prog (tabF T) ra base L) : ExecOK Try.prog (tabF T) ra base (W (tabF T) noS L) := W_ok sumNone_ok hL

theorem S5_ok : SumsOK Try.prog (tabF T) ra base (S5 T) := by
  have hE := tabF_plain T
  refine sumG_deal hE S4_ok ⟨_, Try.func26, by kernel_rfl⟩ fun v _ => ?_
  refine (gives_of_tree hE (w0 noL_ok) sumNone_ok (hp_below _) (within_call T v) ?_).2
  simp only [Tree.holds, decide_eq_true_eq, decide_eq_false_iff_not]
  refine ⟨fun k => ⟨_, rfl, ?_, rfl⟩, fun k => ⟨_, rfl, ?_, rfl⟩⟩
  · show _ = AVal.int .i64 (clampV v)
    rw [clampV, if_neg (by omega), if_pos k]
  · show _ = AVal.int .i64 (clampV v)
    by_cases h : 0 < v
    · rw [if_pos h, clampV, if_neg (by omega), if_neg k]
    · rw [if_neg h, clampV]
      by_cases h2 : v < 0
      · rw [if_pos h2]
      · have : v = 0 := by omega
        subst this; rfl

theorem inT_iff {v : Int} : inT v = true ↔ 0 ≤ v ∧ v ≤ 1152921504606846976 := by simp only [inT, Bool.and_eq_true, decide_eq_true_eq]

theorem allT_low {l : List Int} {n i : Nat} (h : i < l.length) (hin : i < n) (hx : inT (l.getD i 0) = false) : allT (l.take n) = false := by
  cases hh : allT (l.take n) with
  | false => rfl
  | true =>
    have := List.all_eq_true.1 hh l[i] (List.mem_take_iff_getElem.2 ⟨i, by omega, rfl⟩)
    rw [getD_at h] at hx
    rw [hx] at this; cases this

theorem allT_snoc {l : List Int} {i : Nat} (h : i < l.length) (h1 : allT (l.take i) = true) (h2 : inT (l.getD i 0) = true) : allT (l.take (i + 1)) = true := by
  rw [allT, List.take_add_one, List.getElem?_eq_getElem h, List.all_append, ← allT, h1]
  rw [getD_at h] at h2
  simp [h2]

/-- cells, of which the first ones are laid -/
def fillC (l : List Int) (i : Nat) : List Int := l.take i ++ List.replicate (16 - i) 0

theorem fill_set (l : List Int) {i : Nat} (h : i < l.length) (h16 : i < 16) : (fillC l i).set i (l.getD i 0) = fillC l (i + 1) ∧ (fillC l i).getD i 0 = 0 := by
  have hl : (l.take i).length = i := by rw [List.length_take]; omega
  obtain ⟨k, hk⟩ : ∃ k, 16 - i = k + 1 := ⟨16 - i - 1, by omega⟩
  have hk' : 16 - (i + 1) = k := by omega
  unfold fillC
  rw [hk, hk', List.replicate_succ]
  constructor
  · rw [List.set_append_right _ _ (by omega), hl, Nat.sub_self, List.set_cons_zero, List.take_add_one, List.getElem?_eq_getElem h, getD_at h, List.append_assoc]; rfl
  · rw [List.getD_eq_getElem?_getD, List.getElem?_append_right (by omega), hl, Nat.sub_self]; rfl

theorem fill_length (l : List Int) {i : Nat} (h : i ≤ l.length) (h16 : i ≤ 16) : (fillC l i).length = 16 := by
  simp only [fillC, List.length_append, List.length_take, List.length_replicate]; omega

theorem TK_ok : ToldsOK Try.prog (tabF T) ra base 0 (TK T) := by
  have hE := tabF_plain T
  refine sumT_ok noT_ok rfl (toldR_ok (c := .loop (codeOf 17 [false, false, true, false, true, true, true])) (by kernel_rfl) fun y hy => ?_)
  obtain ⟨s, t, x⟩ := y
  simp only [makeR, Bool.and_eq_true, decide_eq_true_eq] at hy
  obtain ⟨h1, h2, h3, h4, h5⟩ := hy
  cases s with
  | nil => simp [slN] at h2
  | ro p m =>
    simp only [okS20, Bool.and_eq_true, decide_eq_true_eq] at h1
    simp only [slN] at h2 h3 h5
    refine takes_loop (fun j ts h => ∃ i : Nat, i ≤ m ∧ j = m - i + 1 ∧ allT ((T.hs p).take i) = true ∧ ts = mkT 37 [(1, .int .i64 t), (5, .ptr (.own 0 0 0 0)), (19, .slice (.ro 1 p 0 0) m none), (20, .int .i64 m), (21, .int .i64 i)] ∧ h = hp 0 [(⟨fillC (T.hs p) i, m, x.t⟩ : Fr).blk]) (fun ts h => by rintro ⟨i, _, h, _⟩; omega) (fun j ts h' => ?_) (j := m + 1)
      ⟨0, by omega, rfl, rfl, rfl, by show hp 0 [x.blk] = _; obtain ⟨c, n, t'⟩ := x; simp only at h4 h5; subst h4; subst h5; rfl⟩
    rintro ⟨i, k1, k2, k3, rfl, rfl⟩
    have hwi : wr .i64 ((i : Int) + 1) = ((i + 1 : Nat) : Int) := by rw [wr_in ⟨by omega, by omega⟩]; omega
    refine takes_of_tree hE (wS S5_ok) (f := 17) (.inr (by kernel_rfl)) (hp_below _) (make_round_r T p m t i m ⟨fillC (T.hs p) i, m, x.t⟩) ?_
    have hX : okFr ⟨fillC (T.hs p) i, m, x.t⟩ = true := by
      simp only [okFr, Bool.and_eq_true, decide_eq_true_eq]
      exact ⟨fill_length _ (by omega) (by omega), by omega, by omega⟩
    rw [toNat_nat]
    simp only [Tree.holds, decide_true, Bool.and_self, Bool.and_true, Bool.true_and, true_and, hX, decide_eq_true_eq, decide_eq_false_iff_not, Bool.and_eq_true, hwi, Bool.not_eq_true', Bool.not_eq_false']
    refine ⟨fun q1 => ⟨⟨by omega, by omega⟩, by omega, fun q2 => ?_, fun q2 => ?_⟩, fun q1 => ?_⟩
    · have hi : i < m := by omega
      obtain ⟨f1, f2⟩ := fill_set (T.hs p) (i := i) (by omega) (by omega)
      refine .inr ⟨(), ?_, rfl⟩
      show allT ((T.hs p).take m) = false
      refine allT_low (by omega) hi ?_
      cases hh : inT ((T.hs p).getD i 0) with
      | false => rfl
      | true =>
        exfalso; apply q2
        have hb := inT_iff.1 hh
        rw [markE, if_neg (by rw [l_len hX]; simp only; omega), Int.toNat_natCast, Fr.l, getD_takeI (by simp only; omega), f2, if_neg (by omega)]
    · have hi : i < m := by omega
      obtain ⟨f1, f2⟩ := fill_set (T.hs p) (i := i) (by omega) (by omega)
      have hin : inT ((T.hs p).getD i 0) = true := by
        have q2' := q2
        rw [markE, if_neg (by rw [l_len hX]; simp only; omega), Int.toNat_natCast, Fr.l, getD_takeI (by simp only; omega), f2] at q2'
        split at q2'
        · cases q2'
        · exact inT_iff.2 (by omega)
      refine ⟨i + 1, by omega, by omega, allT_snoc (by omega) k3 hin, rfl, ?_⟩
      simp only [q2, putI, if_true, Int.toNat_natCast, f1]; rfl
    · have : i = m := by omega
      subst this
      exact .inl ⟨(), k3, rfl⟩

theorem make_gives (y : Mk) (h : okS20 T y.s = true) : (makeOk T y = true → Gives Try.prog (tabF T) ra base 0 17 [y.s.v, .int .i64 y.t] (hp 0 []) fun v h' => v = .ptr (.own 0 0 0 0) ∧ h' = hp 0 [(mkFr (y.s.l T) (slN y.s) y.t).blk]) ∧
    (makeOk T y = false → Gives Try.prog (tabF T) ra base 0 17 [y.s.v, .int .i64 y.t] (hp 0 []) fun v h' => v = .nilp ∧ h' = hp 0 []) := by
  have hE := tabF_plain T
  obtain ⟨s, t⟩ := y
  cases s with
  | nil =>
    refine ⟨fun k => by simp [makeOk, slN] at k, fun _ => ?_⟩
    refine gives_of_treeQ hE (wS S5_ok) TK_ok (hp_below _) (make_n T t) ?_
    exact ⟨_, rfl, rfl, rfl⟩
  | ro p m =>
    have hcl : inT t = false → decide (t = clampV t) = false := fun k => by
      refine decide_eq_false fun e => ?_
      have : inT t = true := by rw [inT_iff, e, clampV]; split <;> (try split) <;> omega
      rw [this] at k; cases k
    have hcl2 : inT t = true → decide (t = clampV t) = true := fun k => by
      have := inT_iff.1 k
      refine decide_eq_true ?_
      rw [clampV, if_neg (by omega), if_neg (by omega)]
    have hn : newOk (m : Int) = (decide (1 ≤ m) && decide (m ≤ 16)) := by
      rw [newOk]; congr 1 <;> exact decide_eq_decide.2 (by omega)
    constructor
    · intro k
      simp only [makeOk, Bool.and_eq_true, decide_eq_true_eq] at k
      obtain ⟨k1, k2, k3, k4⟩ := k
      simp only [slN] at k1 k2
      refine gives_of_treeQ hE (wS S5_ok) TK_ok (hp_below _) (make_r T p m t) ?_
      have hn' : newOk (m : Int) = true := by rw [hn]; simp [k1, k2]
      have d1 : decide (1 ≤ m) = true := decide_eq_true k1
      have d2 : decide (m ≤ 16) = true := decide_eq_true k2
      simp only at h
      simp only [TreeQ.holds, decide_true, Bool.and_self, Bool.and_true, Bool.true_and, true_and, hn', hcl2 k3, h, slN, d1, d2, k4, Bool.not_true, reduceCtorEq, false_implies, true_implies, and_true, forall_const]
      exact ⟨by rw [Bool.and_eq_true]; exact ⟨decide_eq_true k1, decide_eq_true k2⟩, _, rfl, rfl, rfl⟩
    · intro k
      refine gives_of_treeQ hE (wS S5_ok) TK_ok (hp_below _) (make_r T p m t) ?_
      simp only at h
      have fin : ∃ v, ([.nilp] : List AVal) = [v] ∧ v = AVal.nilp ∧ ([] : Log) = hp 0 [] := ⟨_, rfl, rfl, rfl⟩
      cases hn1 : newOk (m : Int) with
      | false =>
        simp only [TreeQ.holds, decide_true, Bool.and_self, Bool.and_true, Bool.true_and, true_and, hn1, Bool.not_false, reduceCtorEq, false_implies, true_implies, and_true, forall_const]
        exact fin
      | true =>
        rw [hn] at hn1
        simp only [Bool.and_eq_true, decide_eq_true_eq] at hn1
        have d1 : decide (1 ≤ m) = true := decide_eq_true hn1.1
        have d2 : decide (m ≤ 16) = true := decide_eq_true hn1.2
        have hn' : newOk (m : Int) = true := by rw [hn]; simp [hn1]
        cases ht : inT t with
        | false =>
          simp only [TreeQ.holds, decide_true, Bool.and_self, Bool.and_true, Bool.true_and, true_and, hn', hcl ht, Bool.not_false, reduceCtorEq, false_implies, true_implies, and_true, forall_const]
          exact fin
        | true =>
          have ha : allT ((Sl.ro p m).l T) = false := by
            cases ha : allT ((Sl.ro p m).l T) with
            | false => rfl
            | true =>
              have : makeOk T ⟨.ro p m, t⟩ = true := by
                simp only [makeOk, Bool.and_eq_true, decide_eq_true_eq]; exact ⟨hn1.1, hn1.2, ht, ha⟩
              rw [this] at k; cases k
          simp only [TreeQ.holds, decide_true, Bool.and_self, Bool.and_true, Bool.true_and, true_and, hn', hcl2 ht, h, slN, d1, d2, ha, Bool.not_true, reduceCtorEq, false_implies, true_implies, and_true, forall_const]
          exact ⟨by rw [Bool.and_eq_true]; exact ⟨decide_eq_true hn1.1, decide_eq_true hn1.2⟩, fin⟩

theorem rmakeL_ok : LoopsOK Try.prog (tabF T) ra base (rmakeL T) := by
  have hE := tabF_plain T
  have key : ∀ y : Mk, okS20 T y.s = true → ∀ (p m : Nat), y.s = .ro p m → Takes Try.prog (tabF T) ra base 0 (.loop (codeOf 18 [false, false, true, false, true, true])) (mkT 37 (rmIns y)) (hp 0 []) fun z =>
      (allT (y.s.l T) = true ∧ z = (.exit 0, mkT 37 [(0, y.s.v), (1, .int .i64 y.t)], hp 0 [])) ∨ (allT (y.s.l T) = false ∧ z = (.ret, mkT 37 [(4, .nilp)], hp 0 [])) := by
    rintro ⟨s, t⟩ h p m rfl
    simp only [okS20, Bool.and_eq_true, decide_eq_true_eq] at h
    refine takes_loop (fun j ts h => ∃ i : Nat, i ≤ m ∧ j = m - i + 1 ∧ allT ((T.hs p).take i) = true ∧ ts = mkT 37 [(0, .slice (.ro 1 p 0 0) m none), (1, .int .i64 t), (5, .int .i64 i)] ∧ h = hp 0 []) (fun ts h => by rintro ⟨i, _, h, _⟩; omega) (fun j ts h' => ?_) (j := m + 1) ⟨0, by omega, rfl, rfl, rfl, rfl⟩
    rintro ⟨i, k1, k2, k3, rfl, rfl⟩
    have hwi : wr .i64 ((i : Int) + 1) = ((i + 1 : Nat) : Int) := by rw [wr_in ⟨by omega, by omega⟩]; omega
    refine takes_of_tree hE (w0 noL_ok) (f := 18) (.inr (by kernel_rfl)) (hp_below _) (rmake_round_r T p m t i) ?_
    rw [toNat_nat]
    have bad : i < m → ¬ (0 ≤ (T.hs p).getD i 0 ∧ (T.hs p).getD i 0 ≤ 1152921504606846976) → allT ((T.hs p).take m) = false := fun hi hb => by
      refine allT_low (by omega) hi ?_
      cases hh : inT ((T.hs p).getD i 0) with
      | false => rfl
      | true => exact absurd (inT_iff.1 hh) hb
    simp only [Tree.holds, decide_eq_true_eq, decide_eq_false_iff_not, Bool.and_eq_true, hwi, Bool.not_eq_true', Bool.not_eq_false']
    refine ⟨fun q1 => ⟨⟨by omega, by omega⟩, by omega, fun q2 => ⟨fun q3 => .inr ⟨bad (by omega) (fun hh => q3 hh.2), rfl⟩, fun q3 => ⟨i + 1, by omega, by omega, allT_snoc (by omega) k3 (inT_iff.2 ⟨q2, q3⟩), rfl, rfl⟩⟩, fun q2 => .inr ⟨bad (by omega) (fun hh => q2 hh.1), rfl⟩⟩, fun q1 => ?_⟩
    have : i = m := by omega
    subst this
    exact .inl ⟨k3, rfl⟩
  refine sum2L_deal hE noL_ok rfl (c := codeOf 18 [false, false, true, false, true, true]) (by kernel_rfl) (fun y => by obtain ⟨s, t⟩ := y; cases s <;> rfl) (fun _ => rfl) (fun y hy => ?_) (fun y hy => ?_)
  · simp only [rmakeL1, Bool.and_eq_true] at hy
    obtain ⟨s, t⟩ := y
    cases s with
    | nil => exact absurd hy.1 (by simp [okR])
    | ro p m =>
      refine (key ⟨.ro p m, t⟩ hy.1 p m rfl).mono ?_
      rintro z (⟨_, rfl⟩ | ⟨k, _⟩)
      · rfl
      · rw [k] at hy; exact absurd hy.2 (by decide)
  · simp only [rmakeL2, Bool.and_eq_true, Bool.not_eq_true'] at hy
    obtain ⟨s, t⟩ := y
    cases s with
    | nil => exact absurd hy.1 (by simp [okR])
    | ro p m =>
      refine (key ⟨.ro p m, t⟩ hy.1 p m rfl).mono ?_
      rintro z (⟨k, _⟩ | ⟨_, rfl⟩)
      · rw [k] at hy; exact absurd hy.2 (by decide)
      · rfl
end

end Go.Proofs.Ytnnbbjfbhigcfaa
