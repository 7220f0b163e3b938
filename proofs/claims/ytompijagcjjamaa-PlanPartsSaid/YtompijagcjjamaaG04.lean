/- Parts of the walk: those nodes that are right: loops, and the function (printed by mk08e.py); those nodes that are right: the whole (printed by mk08f.py); what an operator may be: contracts of oper's Check and Class (as in chapter 4); oper: Check, Class, drafts, as trees; oper: Check, Class, drafts keep their contracts; Stage and Check: what goes on within their loops; stage, as trees. -/
import Derived.Test.YtompijagcjjamaaG03

set_option linter.unusedSimpArgs false
set_option linter.unusedVariables false
namespace Go.Proofs.Ytompijagcjjamaa
open Ab
theorem okB_le {m m' : Nat} {s : Ls} (h : okB m s) (hm : m ≤ m') : okB m' s := ⟨by have := h.1; omega, h.2.1, by have := h.2.2; omega⟩
theorem th_inv {m : Nat} {r : Rt} {s s' : Ls} {a : Nd} (h : okB m s) (he : thStep r s a = .on s') : okB (m + 1) s' := by
  simp only [thStep, Res.on.injEq] at he
  subst he
  obtain ⟨h1, h2, h3⟩ := h
  refine ⟨?_, by simp only; omega, by simp only; omega⟩
  simp only
  split
  · simp only [List.length_append, List.length_singleton]; omega
  · omega
theorem th_run (r : Rt) : ∀ (L : List Nd) (s : Ls) (m : Nat), okB m s → ∃ s', runS (thStep r) L s = .on s' ∧ okB (m + L.length) s'
  | [], s, m, h => ⟨s, rfl, h⟩
  | a :: L, s, m, h => by
    obtain ⟨s', h1, h2⟩ := th_run r L _ (m + 1) (th_inv (a := a) (r := r) h rfl)
    refine ⟨s', ?_, okB_le h2 (by simp; omega)⟩
    simp only [runS]
    exact h1
theorem thH_ne (r : Rt) (w : Pw) {s : Ls} (h : s.l ≠ []) : thH r w s = thC r w false s.l s.n := by
  obtain ⟨l, n⟩ := s
  cases l with
  | nil => exact absurd rfl h
  | cons b l => rfl
theorem thH_b (r : Rt) (w : Pw) {s : Ls} {b : Bool} (h : s.l.isEmpty = b) : thC r w b s.l s.n = thH r w s := by rw [thH, h]
theorem okT_iff {m : Nat} {b : Bool} {s : Ls} : okT m b s = true ↔ s.l.isEmpty = b ∧ okB m s := by
  simp only [okT, okB, Bool.and_eq_true, decide_eq_true_eq]
theorem th_two {r : Rt} {w : Pw} {ex : AExit} {outs : List (Nat × AVal)} {L : List Nd} {s : Ls} {m : Nat} (hs : okB m s) {v : State} (hv : PostR (thH r w) ex outs (runS (thStep r) L s) v) :
    (∃ s', (thR r L s s' ∧ s'.l ≠ []) ∧ v = (ex, mkT 59 outs, hp 0 (thC r w false s'.l s'.n))) ∨ ∃ n, thR r L s ⟨[], n⟩ ∧ v = (ex, mkT 59 outs, hp 0 (thC r w true [] n)) := by
  obtain ⟨s', h1, _⟩ := th_run r L s m hs
  rw [h1] at hv
  simp only [PostR] at hv
  obtain ⟨l, n⟩ := s'
  cases l with
  | nil => exact .inr ⟨n, h1, hv⟩
  | cons b l => exact .inl ⟨_, ⟨h1, by simp⟩, hv⟩
theorem th_st_on {T : Pt} {r : Rt} {p : Nat} {s : Ls} {x : ThX} {s' : Ls} (hop : thStep r s ⟨(p : Int) + 1, 0, T.st.getD p z4⟩ = .on x.s) (hr : x.r = r) (hxp : x.p = p) (hy : poL T x.y = T.po p) (hs : thR x.r (itemsAt (x.p + 1) 1 (poL T x.y)) x.s s') : stStep (thStep r) T.po s (p, T.st.getD p z4) = .on s' := by
  simp only [stStep, hop]
  rw [hr, hxp, hy] at hs
  exact hs
theorem th_leafP {T : Pt} {r : Rt} {w : Pw} {p : Nat} {s : Ls} {x : ThX} {outs : List (Nat × AVal)} {s' : Ls} (hs : thPoP T x s') (hop : thStep r s ⟨(p : Int) + 1, 0, T.st.getD p z4⟩ = .on x.s) (hr : x.r = r) (hxp : x.p = p) (hy : poL T x.y = T.po p) :
    PostR (thH r w) .normal outs (stStep (thStep r) T.po s (p, T.st.getD p z4)) (.normal, mkT 59 outs, hp 0 (thC r w false s'.l s'.n)) := by
  rw [th_st_on hop hr hxp hy hs.1]
  show _ = _
  rw [thH_ne _ _ hs.2]
theorem th_leafN {T : Pt} {r : Rt} {w : Pw} {p : Nat} {s : Ls} {x : ThX} {outs : List (Nat × AVal)} {n : Int} (hs : thPoN T x n) (hop : thStep r s ⟨(p : Int) + 1, 0, T.st.getD p z4⟩ = .on x.s) (hr : x.r = r) (hxp : x.p = p) (hy : poL T x.y = T.po p) :
    PostR (thH r w) .normal outs (stStep (thStep r) T.po s (p, T.st.getD p z4)) (.normal, mkT 59 outs, hp 0 (thC r w true [] n)) := by
  rw [th_st_on hop hr hxp hy hs]
  rfl
theorem gi2 (l : List Int) (c : Int) : List.take l.length (List.drop 0 l) ++ [c] = l ++ [c] := by simp
section
variable {ra : Nat → Nat → Nat × Nat} {base : Nat}
theorem thp_pos {T : Pt} (h : T.Ok) {w : Pw} {p : Int} {y : Pq} (hq : okQ T p y = true) {s : Ls} (hs : okB 100 s) :
    Takes Try.prog (tabP T) ra base 5 (.loop (codeOf 33 (false :: pPo))) (mkT 59 (insPo (thY .pr) w.m p y 0)) (hp 0 (thH .pr w s)) fun v => PostR (thH .pr w) (.exit 4) (outPo (thY .pr) w.m p) (runS (thStep .pr) (itemsAt (p + 1) 1 (poL T y)) s) v := by
  have h4 := poL_le h y
  refine iter_loop (C := thH .pr w) (step := thStep .pr) (ins := fun i => insPo (thY .pr) w.m p y (i : Int)) (inv := fun i s => okB (100 + i) s) (itemsAt (p + 1) 1 (poL T y)) ?_ ?_ ?_ hs
  · intro i a s ha hs
    have := (itemsAt_get _ _ _ _ _ ha).1
    exact thp_po h hq ha (okB_le hs (by omega))
  · intro i a s s' ha hs he
    exact th_inv hs he
  · intro s _
    rw [itemsAt_length]
    exact thp_po_end hq
theorem tho_pos {T : Pt} (h : T.Ok) {w : Pw} (z : Int) {p : Int} {y : Pq} (hq : okQ T p y = true) {s : Ls} (hs : okB 100 s) :
    Takes Try.prog (tabP T) ra base 6 (.loop (codeOf 33 (false :: pPo))) (mkT 59 (insPo (thY (.st z)) w.m p y 0)) (hp 0 (thH (.st z) w s)) fun v => PostR (thH (.st z) w) (.exit 4) (outPo (thY (.st z)) w.m p) (runS (thStep (.st z)) (itemsAt (p + 1) 1 (poL T y)) s) v := by
  have h4 := poL_le h y
  refine iter_loop (C := thH (.st z) w) (step := thStep (.st z)) (ins := fun i => insPo (thY (.st z)) w.m p y (i : Int)) (inv := fun i s => okB (100 + i) s) (itemsAt (p + 1) 1 (poL T y)) ?_ ?_ ?_ hs
  · intro i a s ha hs
    have := (itemsAt_get _ _ _ _ _ ha).1
    exact tho_po h z hq ha (okB_le hs (by omega))
  · intro i a s s' ha hs he
    exact th_inv hs he
  · intro s _
    rw [itemsAt_length]
    exact tho_po_end z hq
theorem thq_pos {T : Pt} (h : T.Ok) {w : Pw} (z : Int) {p : Int} {y : Pq} (hq : okQ T p y = true) {s : Ls} (hs : okB 100 s) :
    Takes Try.prog (tabP T) ra base 6 (.loop (codeOf 33 (false :: pPo))) (mkT 59 (insPo (thY (.po z)) w.m p y 0)) (hp 0 (thH (.po z) w s)) fun v => PostR (thH (.po z) w) (.exit 4) (outPo (thY (.po z)) w.m p) (runS (thStep (.po z)) (itemsAt (p + 1) 1 (poL T y)) s) v := by
  have h4 := poL_le h y
  refine iter_loop (C := thH (.po z) w) (step := thStep (.po z)) (ins := fun i => insPo (thY (.po z)) w.m p y (i : Int)) (inv := fun i s => okB (100 + i) s) (itemsAt (p + 1) 1 (poL T y)) ?_ ?_ ?_ hs
  · intro i a s ha hs
    have := (itemsAt_get _ _ _ _ _ ha).1
    exact thq_po h z hq ha (okB_le hs (by omega))
  · intro i a s s' ha hs he
    exact th_inv hs he
  · intro s _
    rw [itemsAt_length]
    exact thq_po_end z hq
theorem thTPo_ok0 {T : Pt} (h : T.Ok) : ToldsOK Try.prog (tabP T) ra base 5 (thTPo T 0) := by
  refine sumT_ok noT_ok rfl (toldX_ok (c := .loop (codeOf 33 (false :: pPo))) okBl_eq (by kernel_rfl) fun x hx => ?_)
  obtain ⟨r, b, s, w, p, y⟩ := x
  simp only [thPoD, Bool.and_eq_true, okRd, decide_eq_true_eq, okT_iff] at hx
  obtain ⟨hr, ⟨hb, hs⟩, hq⟩ := hx
  cases r with
  | pr =>
    show Takes _ _ _ _ _ _ _ (hp 0 (thC .pr w b s.l s.n)) _
    rw [thH_b _ _ hb]
    exact (thp_pos h hq hs).mono fun v hv => th_two hs hv
  | st z => cases hr
  | po z => cases hr
theorem thTPo_ok1 {T : Pt} (h : T.Ok) : ToldsOK Try.prog (tabP T) ra base 6 (thTPo T 1) := by
  refine sumT_ok noT_ok rfl (toldX_ok (c := .loop (codeOf 33 (false :: pPo))) okBl_eq (by kernel_rfl) fun x hx => ?_)
  obtain ⟨r, b, s, w, p, y⟩ := x
  simp only [thPoD, Bool.and_eq_true, okRd, decide_eq_true_eq, okT_iff] at hx
  obtain ⟨hr, ⟨hb, hs⟩, hq⟩ := hx
  cases r with
  | pr => cases hr
  | st z =>
    show Takes _ _ _ _ _ _ _ (hp 0 (thC (.st z) w b s.l s.n)) _
    rw [thH_b _ _ hb]
    exact (tho_pos h z hq hs).mono fun v hv => th_two hs hv
  | po z =>
    show Takes _ _ _ _ _ _ _ (hp 0 (thC (.po z) w b s.l s.n)) _
    rw [thH_b _ _ hb]
    exact (thq_pos h z hq hs).mono fun v hv => th_two hs hv
theorem thp_st {T : Pt} (h : T.Ok) {w : Pw} (hw : okW T w = true) {p : Nat} (hp0 : p < T.st.length) {s : Ls} (hs : okB 50 s) :
    Takes Try.prog (tabP T) ra base 5 (codeOf 33 (false :: pSt)) (mkT 59 (insSt (thY .pr) w.m (p : Int))) (hp 0 (thH .pr w s)) fun y => PostR (thH .pr w) .normal (insSt (thY .pr) w.m ((p + 1 : Nat) : Int)) (stStep (thStep .pr) T.po s (p, T.st.getD p z4)) y := by
  obtain ⟨he, hn, hm⟩ := okW_iff.1 hw
  obtain ⟨e, n, m, la, ep⟩ := w
  obtain ⟨l, c⟩ := s
  obtain ⟨hl, hc0, hc1⟩ := hs
  simp only at he hn hm hl hc0 hc1
  have hp4 := h.st
  have hwr : wr .i64 ((p : Int) + 1) = (p : Int) + 1 := wr_in ⟨by omega, by omega⟩
  have hwc : wr .i64 (c + 1) = c + 1 := wr_in ⟨by omega, by omega⟩
  have hin : (p : Int) < (m : Int) := by omega
  have h0 : (0 : Int) < (p : Int) + 1 := by omega
  have h1 : ¬ ((p : Int) + 1 = 0) := by omega
  have hl' : (l ++ [c]).length ≤ 51 := by simp only [List.length_append, List.length_singleton]; omega
  have hqt : okQ T (p : Int) ⟨true, 0, 0⟩ = true := okQ_iff.2 ⟨rfl, fun h => (by cases h)⟩
  have hqf : T.fs.getD p true = false → okQ T (p : Int) ⟨false, p, T.ns.getD p 0⟩ = true := fun hf => okQ_iff.2 ⟨h.ns p hp0 hf, fun _ => ⟨rfl, by show p ≤ 10; omega⟩⟩
  have hyt : T.fs.getD p true = true → poL T ⟨true, 0, 0⟩ = T.po p := fun hf => (h.fs p hp0 hf).symm
  have hyf : poL T ⟨false, p, T.ns.getD p 0⟩ = T.po p := rfl
  have e1 : ((p + 1 : Nat) : Int) = (p : Int) + 1 := by omega
  rw [e1]
  have hst : thStep .pr ⟨l, c⟩ ⟨(p : Int) + 1, 0, T.st.getD p z4⟩ = .on ⟨l, c + 1⟩ := by
    have : Rt.ok .pr ⟨(p : Int) + 1, 0, T.st.getD p z4⟩ = false := by simp only [Rt.ok, h0, h1, decide_true, decide_false, Bool.and_true, Bool.and_false, Bool.false_and, Bool.true_and, Bool.not_false, Bool.not_true, eq_self_iff_true]
    simp only [thStep, this]
  have hB : okB 100 ⟨l, c + 1⟩ := ⟨by simp only; omega, by simp only; omega, by simp only; omega⟩
  cases e with
  | false =>
    cases l with
    | nil =>
      have hT : okT 100 true _ = true := okT_iff.2 ⟨rfl, hB⟩
      refine takes_of_treeQ (tabP_plain T) (wP T) (thTPo_ok0 h) (.inr (by kernel_rfl)) (hp_below _) (thp_st0f T n m la ep p c) ?_
      simp only [TreeQ.holds, rf_eq, hin, hp0, hwr, hwc, h0, h1, decide_true, decide_false, Bool.not_false, Bool.not_true, Int.toNat_natCast, Nat.zero_add, Bool.and_self, Bool.and_true, Bool.true_and, true_and, Bool.and_eq_true, decide_eq_true_eq, true_implies, Bool.true_eq_false, Bool.false_eq_true, false_implies, and_true, List.getD_cons_zero, take1]
      refine ⟨by omega, fun hf => ?_, fun hf => ?_⟩
      · exact ⟨okBl_self rfl, hT, fun y5 h5 => th_leafP h5 hst rfl rfl (hyt hf), fun y5 h5 => th_leafN h5 hst rfl rfl (hyt hf)⟩
      · exact ⟨okBl_self rfl, ⟨hT, hqf hf⟩, fun y5 h5 => th_leafP h5 hst rfl rfl hyf, fun y5 h5 => th_leafN h5 hst rfl rfl hyf⟩
    | cons b l =>
      have hT : okT 100 false _ = true := okT_iff.2 ⟨rfl, hB⟩
      refine takes_of_treeQ (tabP_plain T) (wP T) (thTPo_ok0 h) (.inr (by kernel_rfl)) (hp_below _) (thp_st1f T n m la ep p c (b :: l)) ?_
      simp only [TreeQ.holds, rf_eq, hin, hp0, hwr, hwc, h0, h1, decide_true, decide_false, Bool.not_false, Bool.not_true, Int.toNat_natCast, Nat.zero_add, Bool.and_self, Bool.and_true, Bool.true_and, true_and, Bool.and_eq_true, decide_eq_true_eq, true_implies, Bool.true_eq_false, Bool.false_eq_true, false_implies, and_true, List.getD_cons_zero, take1]
      refine ⟨by omega, fun hf => ?_, fun hf => ?_⟩
      · exact ⟨okBl_self rfl, hT, fun y5 h5 => th_leafP h5 hst rfl rfl (hyt hf), fun y5 h5 => th_leafN h5 hst rfl rfl (hyt hf)⟩
      · exact ⟨okBl_self rfl, ⟨hT, hqf hf⟩, fun y5 h5 => th_leafP h5 hst rfl rfl hyf, fun y5 h5 => th_leafN h5 hst rfl rfl hyf⟩
  | true =>
    cases l with
    | nil =>
      have hT : okT 100 true _ = true := okT_iff.2 ⟨rfl, hB⟩
      refine takes_of_treeQ (tabP_plain T) (wP T) (thTPo_ok0 h) (.inr (by kernel_rfl)) (hp_below _) (thp_st0t T m la ep p c) ?_
      simp only [TreeQ.holds, rf_eq, hin, hp0, hwr, hwc, h0, h1, decide_true, decide_false, Bool.not_false, Bool.not_true, Int.toNat_natCast, Nat.zero_add, Bool.and_self, Bool.and_true, Bool.true_and, true_and, Bool.and_eq_true, decide_eq_true_eq, true_implies, Bool.true_eq_false, Bool.false_eq_true, false_implies, and_true, List.getD_cons_zero, take1]
      refine ⟨by omega, fun hf => ?_, fun hf => ?_⟩
      · exact ⟨okBl_self rfl, hT, fun y5 h5 => th_leafP h5 hst rfl rfl (hyt hf), fun y5 h5 => th_leafN h5 hst rfl rfl (hyt hf)⟩
      · exact ⟨okBl_self rfl, ⟨hT, hqf hf⟩, fun y5 h5 => th_leafP h5 hst rfl rfl hyf, fun y5 h5 => th_leafN h5 hst rfl rfl hyf⟩
    | cons b l =>
      have hT : okT 100 false _ = true := okT_iff.2 ⟨rfl, hB⟩
      refine takes_of_treeQ (tabP_plain T) (wP T) (thTPo_ok0 h) (.inr (by kernel_rfl)) (hp_below _) (thp_st1t T m la ep p c (b :: l)) ?_
      simp only [TreeQ.holds, rf_eq, hin, hp0, hwr, hwc, h0, h1, decide_true, decide_false, Bool.not_false, Bool.not_true, Int.toNat_natCast, Nat.zero_add, Bool.and_self, Bool.and_true, Bool.true_and, true_and, Bool.and_eq_true, decide_eq_true_eq, true_implies, Bool.true_eq_false, Bool.false_eq_true, false_implies, and_true, List.getD_cons_zero, take1]
      refine ⟨by omega, fun hf => ?_, fun hf => ?_⟩
      · exact ⟨okBl_self rfl, hT, fun y5 h5 => th_leafP h5 hst rfl rfl (hyt hf), fun y5 h5 => th_leafN h5 hst rfl rfl (hyt hf)⟩
      · exact ⟨okBl_self rfl, ⟨hT, hqf hf⟩, fun y5 h5 => th_leafP h5 hst rfl rfl hyf, fun y5 h5 => th_leafN h5 hst rfl rfl hyf⟩
theorem tho_st {T : Pt} (h : T.Ok) {w : Pw} (hw : okW T w = true) (z : Int) {p : Nat} (hp0 : p < T.st.length) {s : Ls} (hs : okB 50 s) :
    Takes Try.prog (tabP T) ra base 6 (codeOf 33 (false :: pSt)) (mkT 59 (insSt (thY (.st z)) w.m (p : Int))) (hp 0 (thH (.st z) w s)) fun y => PostR (thH (.st z) w) .normal (insSt (thY (.st z)) w.m ((p + 1 : Nat) : Int)) (stStep (thStep (.st z)) T.po s (p, T.st.getD p z4)) y := by
  obtain ⟨he, hn, hm⟩ := okW_iff.1 hw
  obtain ⟨e, n, m, la, ep⟩ := w
  obtain ⟨l, c⟩ := s
  obtain ⟨hl, hc0, hc1⟩ := hs
  simp only at he hn hm hl hc0 hc1
  have hp4 := h.st
  have hwr : wr .i64 ((p : Int) + 1) = (p : Int) + 1 := wr_in ⟨by omega, by omega⟩
  have hwc : wr .i64 (c + 1) = c + 1 := wr_in ⟨by omega, by omega⟩
  have hin : (p : Int) < (m : Int) := by omega
  have h0 : (0 : Int) < (p : Int) + 1 := by omega
  have h1 : ¬ ((p : Int) + 1 = 0) := by omega
  have hl' : (l ++ [c]).length ≤ 51 := by simp only [List.length_append, List.length_singleton]; omega
  have hqt : okQ T (p : Int) ⟨true, 0, 0⟩ = true := okQ_iff.2 ⟨rfl, fun h => (by cases h)⟩
  have hqf : T.fs.getD p true = false → okQ T (p : Int) ⟨false, p, T.ns.getD p 0⟩ = true := fun hf => okQ_iff.2 ⟨h.ns p hp0 hf, fun _ => ⟨rfl, by show p ≤ 10; omega⟩⟩
  have hyt : T.fs.getD p true = true → poL T ⟨true, 0, 0⟩ = T.po p := fun hf => (h.fs p hp0 hf).symm
  have hyf : poL T ⟨false, p, T.ns.getD p 0⟩ = T.po p := rfl
  have e1 : ((p + 1 : Nat) : Int) = (p : Int) + 1 := by omega
  rw [e1]
  by_cases hz : (p : Int) + 1 = z
  · have dz : decide ((p : Int) + 1 = z) = true := decide_eq_true hz
    have hst : thStep (.st z) ⟨l, c⟩ ⟨(p : Int) + 1, 0, T.st.getD p z4⟩ = .on ⟨l ++ [c], c + 1⟩ := by
      have : Rt.ok (.st z) ⟨(p : Int) + 1, 0, T.st.getD p z4⟩ = true := by simp only [Rt.ok, h0, h1, dz, decide_true, decide_false, Bool.and_true, Bool.and_false, Bool.false_and, Bool.true_and, Bool.not_false, Bool.not_true, eq_self_iff_true]
      simp only [thStep, this]
    have hB : okB 100 ⟨l ++ [c], c + 1⟩ := ⟨by simp only; omega, by simp only; omega, by simp only; omega⟩
    cases e with
    | false =>
      cases l with
      | nil =>
        have hT : okT 100 false _ = true := okT_iff.2 ⟨rfl, hB⟩
        refine takes_of_treeQ (tabP_plain T) (wP T) (thTPo_ok1 h) (.inr (by kernel_rfl)) (hp_below _) (tho_st0f T z n m la ep p c) ?_
        simp only [TreeQ.holds, rf_eq, hin, hp0, hwr, hwc, h0, h1, dz, decide_true, decide_false, Bool.not_false, Bool.not_true, Int.toNat_natCast, Nat.zero_add, Bool.and_self, Bool.and_true, Bool.true_and, true_and, Bool.and_eq_true, decide_eq_true_eq, true_implies, Bool.true_eq_false, Bool.false_eq_true, false_implies, and_true, List.getD_cons_zero, take1]
        refine ⟨by omega, fun hf => ?_, fun hf => ?_⟩
        · exact ⟨okBl_self rfl, hT, fun y5 h5 => th_leafP h5 hst rfl rfl (hyt hf), fun y5 h5 => th_leafN h5 hst rfl rfl (hyt hf)⟩
        · exact ⟨okBl_self rfl, ⟨hT, hqf hf⟩, fun y5 h5 => th_leafP h5 hst rfl rfl hyf, fun y5 h5 => th_leafN h5 hst rfl rfl hyf⟩
      | cons b l =>
        have hT : okT 100 false _ = true := okT_iff.2 ⟨rfl, hB⟩
        refine takes_of_treeQ (tabP_plain T) (wP T) (thTPo_ok1 h) (.inr (by kernel_rfl)) (hp_below _) (tho_st1f T z n m la ep p c (b :: l)) ?_
        simp only [TreeQ.holds, rf_eq, hin, hp0, hwr, hwc, h0, h1, dz, gi2, gi1 _ c, decide_true, decide_false, Bool.not_false, Bool.not_true, Int.toNat_natCast, Nat.zero_add, Bool.and_self, Bool.and_true, Bool.true_and, true_and, Bool.and_eq_true, decide_eq_true_eq, true_implies, Bool.true_eq_false, Bool.false_eq_true, false_implies, and_true, List.getD_cons_zero, take1]
        refine ⟨by omega, fun hf => ?_, fun hf => ?_⟩
        · exact ⟨by omega, Nat.le_refl _, okBl_self rfl, hT, fun y5 h5 => th_leafP h5 hst rfl rfl (hyt hf), fun y5 h5 => th_leafN h5 hst rfl rfl (hyt hf)⟩
        · exact ⟨by omega, Nat.le_refl _, okBl_self rfl, ⟨hT, hqf hf⟩, fun y5 h5 => th_leafP h5 hst rfl rfl hyf, fun y5 h5 => th_leafN h5 hst rfl rfl hyf⟩
    | true =>
      cases l with
      | nil =>
        have hT : okT 100 false _ = true := okT_iff.2 ⟨rfl, hB⟩
        refine takes_of_treeQ (tabP_plain T) (wP T) (thTPo_ok1 h) (.inr (by kernel_rfl)) (hp_below _) (tho_st0t T z m la ep p c) ?_
        simp only [TreeQ.holds, rf_eq, hin, hp0, hwr, hwc, h0, h1, dz, decide_true, decide_false, Bool.not_false, Bool.not_true, Int.toNat_natCast, Nat.zero_add, Bool.and_self, Bool.and_true, Bool.true_and, true_and, Bool.and_eq_true, decide_eq_true_eq, true_implies, Bool.true_eq_false, Bool.false_eq_true, false_implies, and_true, List.getD_cons_zero, take1]
        refine ⟨by omega, fun hf => ?_, fun hf => ?_⟩
        · exact ⟨okBl_self rfl, hT, fun y5 h5 => th_leafP h5 hst rfl rfl (hyt hf), fun y5 h5 => th_leafN h5 hst rfl rfl (hyt hf)⟩
        · exact ⟨okBl_self rfl, ⟨hT, hqf hf⟩, fun y5 h5 => th_leafP h5 hst rfl rfl hyf, fun y5 h5 => th_leafN h5 hst rfl rfl hyf⟩
      | cons b l =>
        have hT : okT 100 false _ = true := okT_iff.2 ⟨rfl, hB⟩
        refine takes_of_treeQ (tabP_plain T) (wP T) (thTPo_ok1 h) (.inr (by kernel_rfl)) (hp_below _) (tho_st1t T z m la ep p c (b :: l)) ?_
        simp only [TreeQ.holds, rf_eq, hin, hp0, hwr, hwc, h0, h1, dz, gi2, gi1 _ c, decide_true, decide_false, Bool.not_false, Bool.not_true, Int.toNat_natCast, Nat.zero_add, Bool.and_self, Bool.and_true, Bool.true_and, true_and, Bool.and_eq_true, decide_eq_true_eq, true_implies, Bool.true_eq_false, Bool.false_eq_true, false_implies, and_true, List.getD_cons_zero, take1]
        refine ⟨by omega, fun hf => ?_, fun hf => ?_⟩
        · exact ⟨by omega, Nat.le_refl _, okBl_self rfl, hT, fun y5 h5 => th_leafP h5 hst rfl rfl (hyt hf), fun y5 h5 => th_leafN h5 hst rfl rfl (hyt hf)⟩
        · exact ⟨by omega, Nat.le_refl _, okBl_self rfl, ⟨hT, hqf hf⟩, fun y5 h5 => th_leafP h5 hst rfl rfl hyf, fun y5 h5 => th_leafN h5 hst rfl rfl hyf⟩
  · have hz0 := hz
    have hst : thStep (.st z) ⟨l, c⟩ ⟨(p : Int) + 1, 0, T.st.getD p z4⟩ = .on ⟨l, c + 1⟩ := by
      have : Rt.ok (.st z) ⟨(p : Int) + 1, 0, T.st.getD p z4⟩ = false := by simp only [Rt.ok, h0, h1, hz, decide_true, decide_false, Bool.and_true, Bool.and_false, Bool.false_and, Bool.true_and, Bool.not_false, Bool.not_true, eq_self_iff_true]
      simp only [thStep, this]
    have hB : okB 100 ⟨l, c + 1⟩ := ⟨by simp only; omega, by simp only; omega, by simp only; omega⟩
    cases e with
    | false =>
      cases l with
      | nil =>
        have hT : okT 100 true _ = true := okT_iff.2 ⟨rfl, hB⟩
        refine takes_of_treeQ (tabP_plain T) (wP T) (thTPo_ok1 h) (.inr (by kernel_rfl)) (hp_below _) (tho_st0f T z n m la ep p c) ?_
        simp only [TreeQ.holds, rf_eq, hin, hp0, hwr, hwc, h0, h1, hz, decide_true, decide_false, Bool.not_false, Bool.not_true, Int.toNat_natCast, Nat.zero_add, Bool.and_self, Bool.and_true, Bool.true_and, true_and, Bool.and_eq_true, decide_eq_true_eq, true_implies, Bool.true_eq_false, Bool.false_eq_true, false_implies, and_true, List.getD_cons_zero, take1]
        refine ⟨by omega, fun hf => ?_, fun hf => ?_⟩
        · exact ⟨okBl_self rfl, hT, fun y5 h5 => th_leafP h5 hst rfl rfl (hyt hf), fun y5 h5 => th_leafN h5 hst rfl rfl (hyt hf)⟩
        · exact ⟨okBl_self rfl, ⟨hT, hqf hf⟩, fun y5 h5 => th_leafP h5 hst rfl rfl hyf, fun y5 h5 => th_leafN h5 hst rfl rfl hyf⟩
      | cons b l =>
        have hT : okT 100 false _ = true := okT_iff.2 ⟨rfl, hB⟩
        refine takes_of_treeQ (tabP_plain T) (wP T) (thTPo_ok1 h) (.inr (by kernel_rfl)) (hp_below _) (tho_st1f T z n m la ep p c (b :: l)) ?_
        simp only [TreeQ.holds, rf_eq, hin, hp0, hwr, hwc, h0, h1, hz, decide_true, decide_false, Bool.not_false, Bool.not_true, Int.toNat_natCast, Nat.zero_add, Bool.and_self, Bool.and_true, Bool.true_and, true_and, Bool.and_eq_true, decide_eq_true_eq, true_implies, Bool.true_eq_false, Bool.false_eq_true, false_implies, and_true, List.getD_cons_zero, take1]
        refine ⟨by omega, fun hf => ?_, fun hf => ?_⟩
        · exact ⟨okBl_self rfl, hT, fun y5 h5 => th_leafP h5 hst rfl rfl (hyt hf), fun y5 h5 => th_leafN h5 hst rfl rfl (hyt hf)⟩
        · exact ⟨okBl_self rfl, ⟨hT, hqf hf⟩, fun y5 h5 => th_leafP h5 hst rfl rfl hyf, fun y5 h5 => th_leafN h5 hst rfl rfl hyf⟩
    | true =>
      cases l with
      | nil =>
        have hT : okT 100 true _ = true := okT_iff.2 ⟨rfl, hB⟩
        refine takes_of_treeQ (tabP_plain T) (wP T) (thTPo_ok1 h) (.inr (by kernel_rfl)) (hp_below _) (tho_st0t T z m la ep p c) ?_
        simp only [TreeQ.holds, rf_eq, hin, hp0, hwr, hwc, h0, h1, hz, decide_true, decide_false, Bool.not_false, Bool.not_true, Int.toNat_natCast, Nat.zero_add, Bool.and_self, Bool.and_true, Bool.true_and, true_and, Bool.and_eq_true, decide_eq_true_eq, true_implies, Bool.true_eq_false, Bool.false_eq_true, false_implies, and_true, List.getD_cons_zero, take1]
        refine ⟨by omega, fun hf => ?_, fun hf => ?_⟩
        · exact ⟨okBl_self rfl, hT, fun y5 h5 => th_leafP h5 hst rfl rfl (hyt hf), fun y5 h5 => th_leafN h5 hst rfl rfl (hyt hf)⟩
        · exact ⟨okBl_self rfl, ⟨hT, hqf hf⟩, fun y5 h5 => th_leafP h5 hst rfl rfl hyf, fun y5 h5 => th_leafN h5 hst rfl rfl hyf⟩
      | cons b l =>
        have hT : okT 100 false _ = true := okT_iff.2 ⟨rfl, hB⟩
        refine takes_of_treeQ (tabP_plain T) (wP T) (thTPo_ok1 h) (.inr (by kernel_rfl)) (hp_below _) (tho_st1t T z m la ep p c (b :: l)) ?_
        simp only [TreeQ.holds, rf_eq, hin, hp0, hwr, hwc, h0, h1, hz, decide_true, decide_false, Bool.not_false, Bool.not_true, Int.toNat_natCast, Nat.zero_add, Bool.and_self, Bool.and_true, Bool.true_and, true_and, Bool.and_eq_true, decide_eq_true_eq, true_implies, Bool.true_eq_false, Bool.false_eq_true, false_implies, and_true, List.getD_cons_zero, take1]
        refine ⟨by omega, fun hf => ?_, fun hf => ?_⟩
        · exact ⟨okBl_self rfl, hT, fun y5 h5 => th_leafP h5 hst rfl rfl (hyt hf), fun y5 h5 => th_leafN h5 hst rfl rfl (hyt hf)⟩
        · exact ⟨okBl_self rfl, ⟨hT, hqf hf⟩, fun y5 h5 => th_leafP h5 hst rfl rfl hyf, fun y5 h5 => th_leafN h5 hst rfl rfl hyf⟩
theorem thq_st {T : Pt} (h : T.Ok) {w : Pw} (hw : okW T w = true) (z : Int) {p : Nat} (hp0 : p < T.st.length) {s : Ls} (hs : okB 50 s) :
    Takes Try.prog (tabP T) ra base 6 (codeOf 33 (false :: pSt)) (mkT 59 (insSt (thY (.po z)) w.m (p : Int))) (hp 0 (thH (.po z) w s)) fun y => PostR (thH (.po z) w) .normal (insSt (thY (.po z)) w.m ((p + 1 : Nat) : Int)) (stStep (thStep (.po z)) T.po s (p, T.st.getD p z4)) y := by
  obtain ⟨he, hn, hm⟩ := okW_iff.1 hw
  obtain ⟨e, n, m, la, ep⟩ := w
  obtain ⟨l, c⟩ := s
  obtain ⟨hl, hc0, hc1⟩ := hs
  simp only at he hn hm hl hc0 hc1
  have hp4 := h.st
  have hwr : wr .i64 ((p : Int) + 1) = (p : Int) + 1 := wr_in ⟨by omega, by omega⟩
  have hwc : wr .i64 (c + 1) = c + 1 := wr_in ⟨by omega, by omega⟩
  have hin : (p : Int) < (m : Int) := by omega
  have h0 : (0 : Int) < (p : Int) + 1 := by omega
  have h1 : ¬ ((p : Int) + 1 = 0) := by omega
  have hl' : (l ++ [c]).length ≤ 51 := by simp only [List.length_append, List.length_singleton]; omega
  have hqt : okQ T (p : Int) ⟨true, 0, 0⟩ = true := okQ_iff.2 ⟨rfl, fun h => (by cases h)⟩
  have hqf : T.fs.getD p true = false → okQ T (p : Int) ⟨false, p, T.ns.getD p 0⟩ = true := fun hf => okQ_iff.2 ⟨h.ns p hp0 hf, fun _ => ⟨rfl, by show p ≤ 10; omega⟩⟩
  have hyt : T.fs.getD p true = true → poL T ⟨true, 0, 0⟩ = T.po p := fun hf => (h.fs p hp0 hf).symm
  have hyf : poL T ⟨false, p, T.ns.getD p 0⟩ = T.po p := rfl
  have e1 : ((p + 1 : Nat) : Int) = (p : Int) + 1 := by omega
  rw [e1]
  by_cases hz : (p : Int) + 1 = z
  · have dz : decide ((p : Int) + 1 = z) = true := decide_eq_true hz
    have hst : thStep (.po z) ⟨l, c⟩ ⟨(p : Int) + 1, 0, T.st.getD p z4⟩ = .on ⟨l, c + 1⟩ := by
      have : Rt.ok (.po z) ⟨(p : Int) + 1, 0, T.st.getD p z4⟩ = false := by simp only [Rt.ok, h0, h1, dz, decide_true, decide_false, Bool.and_true, Bool.and_false, Bool.false_and, Bool.true_and, Bool.not_false, Bool.not_true, eq_self_iff_true]
      simp only [thStep, this]
    have hB : okB 100 ⟨l, c + 1⟩ := ⟨by simp only; omega, by simp only; omega, by simp only; omega⟩
    cases e with
    | false =>
      cases l with
      | nil =>
        have hT : okT 100 true _ = true := okT_iff.2 ⟨rfl, hB⟩
        refine takes_of_treeQ (tabP_plain T) (wP T) (thTPo_ok1 h) (.inr (by kernel_rfl)) (hp_below _) (thq_st0f T z n m la ep p c) ?_
        simp only [TreeQ.holds, rf_eq, hin, hp0, hwr, hwc, h0, h1, dz, decide_true, decide_false, Bool.not_false, Bool.not_true, Int.toNat_natCast, Nat.zero_add, Bool.and_self, Bool.and_true, Bool.true_and, true_and, Bool.and_eq_true, decide_eq_true_eq, true_implies, Bool.true_eq_false, Bool.false_eq_true, false_implies, and_true, List.getD_cons_zero, take1]
        refine ⟨by omega, fun hf => ?_, fun hf => ?_⟩
        · exact ⟨okBl_self rfl, hT, fun y5 h5 => th_leafP h5 hst rfl rfl (hyt hf), fun y5 h5 => th_leafN h5 hst rfl rfl (hyt hf)⟩
        · exact ⟨okBl_self rfl, ⟨hT, hqf hf⟩, fun y5 h5 => th_leafP h5 hst rfl rfl hyf, fun y5 h5 => th_leafN h5 hst rfl rfl hyf⟩
      | cons b l =>
        have hT : okT 100 false _ = true := okT_iff.2 ⟨rfl, hB⟩
        refine takes_of_treeQ (tabP_plain T) (wP T) (thTPo_ok1 h) (.inr (by kernel_rfl)) (hp_below _) (thq_st1f T z n m la ep p c (b :: l)) ?_
        simp only [TreeQ.holds, rf_eq, hin, hp0, hwr, hwc, h0, h1, dz, decide_true, decide_false, Bool.not_false, Bool.not_true, Int.toNat_natCast, Nat.zero_add, Bool.and_self, Bool.and_true, Bool.true_and, true_and, Bool.and_eq_true, decide_eq_true_eq, true_implies, Bool.true_eq_false, Bool.false_eq_true, false_implies, and_true, List.getD_cons_zero, take1]
        refine ⟨by omega, fun hf => ?_, fun hf => ?_⟩
        · exact ⟨okBl_self rfl, hT, fun y5 h5 => th_leafP h5 hst rfl rfl (hyt hf), fun y5 h5 => th_leafN h5 hst rfl rfl (hyt hf)⟩
        · exact ⟨okBl_self rfl, ⟨hT, hqf hf⟩, fun y5 h5 => th_leafP h5 hst rfl rfl hyf, fun y5 h5 => th_leafN h5 hst rfl rfl hyf⟩
    | true =>
      cases l with
      | nil =>
        have hT : okT 100 true _ = true := okT_iff.2 ⟨rfl, hB⟩
        refine takes_of_treeQ (tabP_plain T) (wP T) (thTPo_ok1 h) (.inr (by kernel_rfl)) (hp_below _) (thq_st0t T z m la ep p c) ?_
        simp only [TreeQ.holds, rf_eq, hin, hp0, hwr, hwc, h0, h1, dz, decide_true, decide_false, Bool.not_false, Bool.not_true, Int.toNat_natCast, Nat.zero_add, Bool.and_self, Bool.and_true, Bool.true_and, true_and, Bool.and_eq_true, decide_eq_true_eq, true_implies, Bool.true_eq_false, Bool.false_eq_true, false_implies, and_true, List.getD_cons_zero, take1]
        refine ⟨by omega, fun hf => ?_, fun hf => ?_⟩
        · exact ⟨okBl_self rfl, hT, fun y5 h5 => th_leafP h5 hst rfl rfl (hyt hf), fun y5 h5 => th_leafN h5 hst rfl rfl (hyt hf)⟩
        · exact ⟨okBl_self rfl, ⟨hT, hqf hf⟩, fun y5 h5 => th_leafP h5 hst rfl rfl hyf, fun y5 h5 => th_leafN h5 hst rfl rfl hyf⟩
      | cons b l =>
        have hT : okT 100 false _ = true := okT_iff.2 ⟨rfl, hB⟩
        refine takes_of_treeQ (tabP_plain T) (wP T) (thTPo_ok1 h) (.inr (by kernel_rfl)) (hp_below _) (thq_st1t T z m la ep p c (b :: l)) ?_
        simp only [TreeQ.holds, rf_eq, hin, hp0, hwr, hwc, h0, h1, dz, decide_true, decide_false, Bool.not_false, Bool.not_true, Int.toNat_natCast, Nat.zero_add, Bool.and_self, Bool.and_true, Bool.true_and, true_and, Bool.and_eq_true, decide_eq_true_eq, true_implies, Bool.true_eq_false, Bool.false_eq_true, false_implies, and_true, List.getD_cons_zero, take1]
        refine ⟨by omega, fun hf => ?_, fun hf => ?_⟩
        · exact ⟨okBl_self rfl, hT, fun y5 h5 => th_leafP h5 hst rfl rfl (hyt hf), fun y5 h5 => th_leafN h5 hst rfl rfl (hyt hf)⟩
        · exact ⟨okBl_self rfl, ⟨hT, hqf hf⟩, fun y5 h5 => th_leafP h5 hst rfl rfl hyf, fun y5 h5 => th_leafN h5 hst rfl rfl hyf⟩
  · have hz0 := hz
    have hst : thStep (.po z) ⟨l, c⟩ ⟨(p : Int) + 1, 0, T.st.getD p z4⟩ = .on ⟨l, c + 1⟩ := by
      have : Rt.ok (.po z) ⟨(p : Int) + 1, 0, T.st.getD p z4⟩ = false := by simp only [Rt.ok, h0, h1, hz, decide_true, decide_false, Bool.and_true, Bool.and_false, Bool.false_and, Bool.true_and, Bool.not_false, Bool.not_true, eq_self_iff_true]
      simp only [thStep, this]
    have hB : okB 100 ⟨l, c + 1⟩ := ⟨by simp only; omega, by simp only; omega, by simp only; omega⟩
    cases e with
    | false =>
      cases l with
      | nil =>
        have hT : okT 100 true _ = true := okT_iff.2 ⟨rfl, hB⟩
        refine takes_of_treeQ (tabP_plain T) (wP T) (thTPo_ok1 h) (.inr (by kernel_rfl)) (hp_below _) (thq_st0f T z n m la ep p c) ?_
        simp only [TreeQ.holds, rf_eq, hin, hp0, hwr, hwc, h0, h1, hz, decide_true, decide_false, Bool.not_false, Bool.not_true, Int.toNat_natCast, Nat.zero_add, Bool.and_self, Bool.and_true, Bool.true_and, true_and, Bool.and_eq_true, decide_eq_true_eq, true_implies, Bool.true_eq_false, Bool.false_eq_true, false_implies, and_true, List.getD_cons_zero, take1]
        refine ⟨by omega, fun hf => ?_, fun hf => ?_⟩
        · exact ⟨okBl_self rfl, hT, fun y5 h5 => th_leafP h5 hst rfl rfl (hyt hf), fun y5 h5 => th_leafN h5 hst rfl rfl (hyt hf)⟩
        · exact ⟨okBl_self rfl, ⟨hT, hqf hf⟩, fun y5 h5 => th_leafP h5 hst rfl rfl hyf, fun y5 h5 => th_leafN h5 hst rfl rfl hyf⟩
      | cons b l =>
        have hT : okT 100 false _ = true := okT_iff.2 ⟨rfl, hB⟩
        refine takes_of_treeQ (tabP_plain T) (wP T) (thTPo_ok1 h) (.inr (by kernel_rfl)) (hp_below _) (thq_st1f T z n m la ep p c (b :: l)) ?_
        simp only [TreeQ.holds, rf_eq, hin, hp0, hwr, hwc, h0, h1, hz, decide_true, decide_false, Bool.not_false, Bool.not_true, Int.toNat_natCast, Nat.zero_add, Bool.and_self, Bool.and_true, Bool.true_and, true_and, Bool.and_eq_true, decide_eq_true_eq, true_implies, Bool.true_eq_false, Bool.false_eq_true, false_implies, and_true, List.getD_cons_zero, take1]
        refine ⟨by omega, fun hf => ?_, fun hf => ?_⟩
        · exact ⟨okBl_self rfl, hT, fun y5 h5 => th_leafP h5 hst rfl rfl (hyt hf), fun y5 h5 => th_leafN h5 hst rfl rfl (hyt hf)⟩
        · exact ⟨okBl_self rfl, ⟨hT, hqf hf⟩, fun y5 h5 => th_leafP h5 hst rfl rfl hyf, fun y5 h5 => th_leafN h5 hst rfl rfl hyf⟩
    | true =>
      cases l with
      | nil =>
        have hT : okT 100 true _ = true := okT_iff.2 ⟨rfl, hB⟩
        refine takes_of_treeQ (tabP_plain T) (wP T) (thTPo_ok1 h) (.inr (by kernel_rfl)) (hp_below _) (thq_st0t T z m la ep p c) ?_
        simp only [TreeQ.holds, rf_eq, hin, hp0, hwr, hwc, h0, h1, hz, decide_true, decide_false, Bool.not_false, Bool.not_true, Int.toNat_natCast, Nat.zero_add, Bool.and_self, Bool.and_true, Bool.true_and, true_and, Bool.and_eq_true, decide_eq_true_eq, true_implies, Bool.true_eq_false, Bool.false_eq_true, false_implies, and_true, List.getD_cons_zero, take1]
        refine ⟨by omega, fun hf => ?_, fun hf => ?_⟩
        · exact ⟨okBl_self rfl, hT, fun y5 h5 => th_leafP h5 hst rfl rfl (hyt hf), fun y5 h5 => th_leafN h5 hst rfl rfl (hyt hf)⟩
        · exact ⟨okBl_self rfl, ⟨hT, hqf hf⟩, fun y5 h5 => th_leafP h5 hst rfl rfl hyf, fun y5 h5 => th_leafN h5 hst rfl rfl hyf⟩
      | cons b l =>
        have hT : okT 100 false _ = true := okT_iff.2 ⟨rfl, hB⟩
        refine takes_of_treeQ (tabP_plain T) (wP T) (thTPo_ok1 h) (.inr (by kernel_rfl)) (hp_below _) (thq_st1t T z m la ep p c (b :: l)) ?_
        simp only [TreeQ.holds, rf_eq, hin, hp0, hwr, hwc, h0, h1, hz, decide_true, decide_false, Bool.not_false, Bool.not_true, Int.toNat_natCast, Nat.zero_add, Bool.and_self, Bool.and_true, Bool.true_and, true_and, Bool.and_eq_true, decide_eq_true_eq, true_implies, Bool.true_eq_false, Bool.false_eq_true, false_implies, and_true, List.getD_cons_zero, take1]
        refine ⟨by omega, fun hf => ?_, fun hf => ?_⟩
        · exact ⟨okBl_self rfl, hT, fun y5 h5 => th_leafP h5 hst rfl rfl (hyt hf), fun y5 h5 => th_leafN h5 hst rfl rfl (hyt hf)⟩
        · exact ⟨okBl_self rfl, ⟨hT, hqf hf⟩, fun y5 h5 => th_leafP h5 hst rfl rfl hyf, fun y5 h5 => th_leafN h5 hst rfl rfl hyf⟩
end
end Go.Proofs.Ytompijagcjjamaa

namespace Go.Proofs.Ytompijagcjjamaa
open Ab
theorem th_stInv {m : Nat} {r : Rt} {po : Nat → List O4} {s s' : Ls} {g : Nat × O4} (h : okB m s) (h4 : (po g.1).length ≤ 4) (he : stStep (thStep r) po s g = .on s') : okB (m + 5) s' := by
  obtain ⟨s1, h1, h2⟩ := th_run r (itemsAt ((g.1 : Int) + 1) 1 (po g.1)) _ (m + 1) (th_inv (r := r) (a := ⟨(g.1 : Int) + 1, 0, g.2⟩) h rfl)
  have : stStep (thStep r) po s g = .on s1 := h1
  rw [this] at he
  cases he
  exact okB_le h2 (by rw [itemsAt_length]; omega)
theorem th_join {T : Pt} {r : Rt} {s1 s' : Ls} (h1 : thR r (itemsAt 0 0 T.pre) ⟨[], 0⟩ s1) (h2 : thR r (stItems T.po 0 T.st) s1 s') : thR r (nodesT T) ⟨[], 0⟩ s' := by
  simp only [thR] at h1 h2
  simp only [thR, nodesT, runS_append, h1]
  exact h2
theorem th_preOk {T : Pt} (h : T.Ok) {r : Rt} {s1 : Ls} (h1 : thR r (itemsAt 0 0 T.pre) ⟨[], 0⟩ s1) : okB 10 s1 := by
  obtain ⟨s', e1, e2⟩ := th_run r (itemsAt 0 0 T.pre) ⟨[], 0⟩ 0 ⟨Nat.le_refl _, Int.le_refl _, Int.le_refl _⟩
  have := h.pre
  rw [h1] at e1
  cases e1
  exact okB_le e2 (by rw [itemsAt_length]; omega)
section
variable {ra : Nat → Nat → Nat × Nat} {base : Nat}
theorem thp_st_end {T : Pt} (h : T.Ok) {w : Pw} (hw : okW T w = true) {s : Ls} :
    Takes Try.prog (tabP T) ra base 5 (codeOf 33 (false :: pSt)) (mkT 59 (insSt (thY .pr) w.m (T.st.length : Int))) (hp 0 (thH .pr w s)) fun y => y = (.exit 2, mkT 59 [], hp 0 (thH .pr w s)) := by
  obtain ⟨he, hn, hm⟩ := okW_iff.1 hw
  obtain ⟨e, n, m, la, ep⟩ := w
  obtain ⟨l, c⟩ := s
  simp only at he hn hm
  have hn' : ¬ ((T.st.length : Int) < (m : Int)) := by omega
  cases e with
  | false =>
    cases l with
    | nil =>
      refine takes_of_treeQ (tabP_plain T) (wP T) (thTPo_ok0 h) (.inr (by kernel_rfl)) (hp_below _) (thp_st0f T n m la ep (T.st.length : Int) c) ?_
      simp only [TreeQ.holds, rf_eq, hn', decide_false, Bool.false_eq_true, false_implies, true_and, true_implies]
      rfl
    | cons b l =>
      refine takes_of_treeQ (tabP_plain T) (wP T) (thTPo_ok0 h) (.inr (by kernel_rfl)) (hp_below _) (thp_st1f T n m la ep (T.st.length : Int) c (b :: l)) ?_
      simp only [TreeQ.holds, rf_eq, hn', decide_false, Bool.false_eq_true, false_implies, true_and, true_implies]
      rfl
  | true =>
    cases l with
    | nil =>
      refine takes_of_treeQ (tabP_plain T) (wP T) (thTPo_ok0 h) (.inr (by kernel_rfl)) (hp_below _) (thp_st0t T m la ep (T.st.length : Int) c) ?_
      simp only [TreeQ.holds, rf_eq, hn', decide_false, Bool.false_eq_true, false_implies, true_and, true_implies]
      rfl
    | cons b l =>
      refine takes_of_treeQ (tabP_plain T) (wP T) (thTPo_ok0 h) (.inr (by kernel_rfl)) (hp_below _) (thp_st1t T m la ep (T.st.length : Int) c (b :: l)) ?_
      simp only [TreeQ.holds, rf_eq, hn', decide_false, Bool.false_eq_true, false_implies, true_and, true_implies]
      rfl
theorem thp_sts {T : Pt} (h : T.Ok) {w : Pw} (hw : okW T w = true) {s : Ls} (hs : okB 10 s) :
    Takes Try.prog (tabP T) ra base 5 (.loop (codeOf 33 (false :: pSt))) (mkT 59 (insSt (thY .pr) w.m 0)) (hp 0 (thH .pr w s)) fun y => PostR (thH .pr w) (.exit 2) [] (runS (thStep .pr) (stItems T.po 0 T.st) s) y := by
  have h2 := h.st
  rw [← runS_groups]
  refine iter_loop (C := thH .pr w) (step := stStep (thStep .pr) T.po) (ins := fun i => insSt (thY .pr) w.m (i : Int)) (inv := fun i s => okB (10 + 5 * i) s) (groups 0 T.st) ?_ ?_ ?_ hs
  · intro i a s ha hs
    obtain ⟨hi, rfl⟩ := groups_get _ _ _ _ ha
    simp only [Nat.zero_add]
    exact thp_st h hw hi (okB_le hs (by omega))
  · intro i a s s' ha hs he
    obtain ⟨hi, rfl⟩ := groups_get _ _ _ _ ha
    exact okB_le (th_stInv hs (h.po _) he) (by omega)
  · intro s _
    rw [groups_length]
    exact thp_st_end h hw
theorem thp_pres {T : Pt} (h : T.Ok) {w : Pw} (hw : okW T w = true) :
    Takes Try.prog (tabP T) ra base 5 (.loop (codeOf 33 (false :: pPre))) (mkT 59 (insPre (thY .pr) (thP .pr) w 0)) (hp 0 (thH .pr w ⟨[], 0⟩)) fun y => PostR (thH .pr w) (.exit 0) [(0, thY .pr), (1, thP .pr)] (runS (thStep .pr) (itemsAt 0 0 T.pre) ⟨[], 0⟩) y := by
  have h2 := h.pre
  refine iter_loop (C := thH .pr w) (step := thStep .pr) (ins := fun i => insPre (thY .pr) (thP .pr) w (i : Int)) (inv := fun i s => okB i s ∧ (T.e = true → s = ⟨[], 0⟩)) (itemsAt 0 0 T.pre) ?_ ?_ ?_ ⟨⟨Nat.le_refl _, Int.le_refl _, Int.le_refl _⟩, fun _ => rfl⟩
  · intro i a s ha hs
    have := (itemsAt_get _ _ _ _ _ ha).1
    exact thp_pre h hw ha (okB_le hs.1 (by omega))
  · intro i a s s' ha hs he
    have := (itemsAt_get _ _ _ _ _ ha).1
    refine ⟨th_inv hs.1 he, fun he => ?_⟩
    rw [h.e he] at this
    simp at this
  · intro s hs
    rw [itemsAt_length]
    exact thp_pre_end h hw hs.2
theorem tho_st_end {T : Pt} (h : T.Ok) {w : Pw} (hw : okW T w = true) (z : Int) {s : Ls} :
    Takes Try.prog (tabP T) ra base 6 (codeOf 33 (false :: pSt)) (mkT 59 (insSt (thY (.st z)) w.m (T.st.length : Int))) (hp 0 (thH (.st z) w s)) fun y => y = (.exit 2, mkT 59 [], hp 0 (thH (.st z) w s)) := by
  obtain ⟨he, hn, hm⟩ := okW_iff.1 hw
  obtain ⟨e, n, m, la, ep⟩ := w
  obtain ⟨l, c⟩ := s
  simp only at he hn hm
  have hn' : ¬ ((T.st.length : Int) < (m : Int)) := by omega
  cases e with
  | false =>
    cases l with
    | nil =>
      refine takes_of_treeQ (tabP_plain T) (wP T) (thTPo_ok1 h) (.inr (by kernel_rfl)) (hp_below _) (tho_st0f T z n m la ep (T.st.length : Int) c) ?_
      simp only [TreeQ.holds, rf_eq, hn', decide_false, Bool.false_eq_true, false_implies, true_and, true_implies]
      rfl
    | cons b l =>
      refine takes_of_treeQ (tabP_plain T) (wP T) (thTPo_ok1 h) (.inr (by kernel_rfl)) (hp_below _) (tho_st1f T z n m la ep (T.st.length : Int) c (b :: l)) ?_
      simp only [TreeQ.holds, rf_eq, hn', decide_false, Bool.false_eq_true, false_implies, true_and, true_implies]
      rfl
  | true =>
    cases l with
    | nil =>
      refine takes_of_treeQ (tabP_plain T) (wP T) (thTPo_ok1 h) (.inr (by kernel_rfl)) (hp_below _) (tho_st0t T z m la ep (T.st.length : Int) c) ?_
      simp only [TreeQ.holds, rf_eq, hn', decide_false, Bool.false_eq_true, false_implies, true_and, true_implies]
      rfl
    | cons b l =>
      refine takes_of_treeQ (tabP_plain T) (wP T) (thTPo_ok1 h) (.inr (by kernel_rfl)) (hp_below _) (tho_st1t T z m la ep (T.st.length : Int) c (b :: l)) ?_
      simp only [TreeQ.holds, rf_eq, hn', decide_false, Bool.false_eq_true, false_implies, true_and, true_implies]
      rfl
theorem tho_sts {T : Pt} (h : T.Ok) {w : Pw} (hw : okW T w = true) (z : Int) {s : Ls} (hs : okB 10 s) :
    Takes Try.prog (tabP T) ra base 6 (.loop (codeOf 33 (false :: pSt))) (mkT 59 (insSt (thY (.st z)) w.m 0)) (hp 0 (thH (.st z) w s)) fun y => PostR (thH (.st z) w) (.exit 2) [] (runS (thStep (.st z)) (stItems T.po 0 T.st) s) y := by
  have h2 := h.st
  rw [← runS_groups]
  refine iter_loop (C := thH (.st z) w) (step := stStep (thStep (.st z)) T.po) (ins := fun i => insSt (thY (.st z)) w.m (i : Int)) (inv := fun i s => okB (10 + 5 * i) s) (groups 0 T.st) ?_ ?_ ?_ hs
  · intro i a s ha hs
    obtain ⟨hi, rfl⟩ := groups_get _ _ _ _ ha
    simp only [Nat.zero_add]
    exact tho_st h hw z hi (okB_le hs (by omega))
  · intro i a s s' ha hs he
    obtain ⟨hi, rfl⟩ := groups_get _ _ _ _ ha
    exact okB_le (th_stInv hs (h.po _) he) (by omega)
  · intro s _
    rw [groups_length]
    exact tho_st_end h hw z
theorem tho_pres {T : Pt} (h : T.Ok) {w : Pw} (hw : okW T w = true) (z : Int) :
    Takes Try.prog (tabP T) ra base 6 (.loop (codeOf 33 (false :: pPre))) (mkT 59 (insPre (thY (.st z)) (thP (.st z)) w 0)) (hp 0 (thH (.st z) w ⟨[], 0⟩)) fun y => PostR (thH (.st z) w) (.exit 0) [(0, thY (.st z)), (1, thP (.st z))] (runS (thStep (.st z)) (itemsAt 0 0 T.pre) ⟨[], 0⟩) y := by
  have h2 := h.pre
  refine iter_loop (C := thH (.st z) w) (step := thStep (.st z)) (ins := fun i => insPre (thY (.st z)) (thP (.st z)) w (i : Int)) (inv := fun i s => okB i s ∧ (T.e = true → s = ⟨[], 0⟩)) (itemsAt 0 0 T.pre) ?_ ?_ ?_ ⟨⟨Nat.le_refl _, Int.le_refl _, Int.le_refl _⟩, fun _ => rfl⟩
  · intro i a s ha hs
    have := (itemsAt_get _ _ _ _ _ ha).1
    exact tho_pre h hw z ha (okB_le hs.1 (by omega))
  · intro i a s s' ha hs he
    have := (itemsAt_get _ _ _ _ _ ha).1
    refine ⟨th_inv hs.1 he, fun he => ?_⟩
    rw [h.e he] at this
    simp at this
  · intro s hs
    rw [itemsAt_length]
    exact tho_pre_end h hw z hs.2
theorem thq_st_end {T : Pt} (h : T.Ok) {w : Pw} (hw : okW T w = true) (z : Int) {s : Ls} :
    Takes Try.prog (tabP T) ra base 6 (codeOf 33 (false :: pSt)) (mkT 59 (insSt (thY (.po z)) w.m (T.st.length : Int))) (hp 0 (thH (.po z) w s)) fun y => y = (.exit 2, mkT 59 [], hp 0 (thH (.po z) w s)) := by
  obtain ⟨he, hn, hm⟩ := okW_iff.1 hw
  obtain ⟨e, n, m, la, ep⟩ := w
  obtain ⟨l, c⟩ := s
  simp only at he hn hm
  have hn' : ¬ ((T.st.length : Int) < (m : Int)) := by omega
  cases e with
  | false =>
    cases l with
    | nil =>
      refine takes_of_treeQ (tabP_plain T) (wP T) (thTPo_ok1 h) (.inr (by kernel_rfl)) (hp_below _) (thq_st0f T z n m la ep (T.st.length : Int) c) ?_
      simp only [TreeQ.holds, rf_eq, hn', decide_false, Bool.false_eq_true, false_implies, true_and, true_implies]
      rfl
    | cons b l =>
      refine takes_of_treeQ (tabP_plain T) (wP T) (thTPo_ok1 h) (.inr (by kernel_rfl)) (hp_below _) (thq_st1f T z n m la ep (T.st.length : Int) c (b :: l)) ?_
      simp only [TreeQ.holds, rf_eq, hn', decide_false, Bool.false_eq_true, false_implies, true_and, true_implies]
      rfl
  | true =>
    cases l with
    | nil =>
      refine takes_of_treeQ (tabP_plain T) (wP T) (thTPo_ok1 h) (.inr (by kernel_rfl)) (hp_below _) (thq_st0t T z m la ep (T.st.length : Int) c) ?_
      simp only [TreeQ.holds, rf_eq, hn', decide_false, Bool.false_eq_true, false_implies, true_and, true_implies]
      rfl
    | cons b l =>
      refine takes_of_treeQ (tabP_plain T) (wP T) (thTPo_ok1 h) (.inr (by kernel_rfl)) (hp_below _) (thq_st1t T z m la ep (T.st.length : Int) c (b :: l)) ?_
      simp only [TreeQ.holds, rf_eq, hn', decide_false, Bool.false_eq_true, false_implies, true_and, true_implies]
      rfl
theorem thq_sts {T : Pt} (h : T.Ok) {w : Pw} (hw : okW T w = true) (z : Int) {s : Ls} (hs : okB 10 s) :
    Takes Try.prog (tabP T) ra base 6 (.loop (codeOf 33 (false :: pSt))) (mkT 59 (insSt (thY (.po z)) w.m 0)) (hp 0 (thH (.po z) w s)) fun y => PostR (thH (.po z) w) (.exit 2) [] (runS (thStep (.po z)) (stItems T.po 0 T.st) s) y := by
  have h2 := h.st
  rw [← runS_groups]
  refine iter_loop (C := thH (.po z) w) (step := stStep (thStep (.po z)) T.po) (ins := fun i => insSt (thY (.po z)) w.m (i : Int)) (inv := fun i s => okB (10 + 5 * i) s) (groups 0 T.st) ?_ ?_ ?_ hs
  · intro i a s ha hs
    obtain ⟨hi, rfl⟩ := groups_get _ _ _ _ ha
    simp only [Nat.zero_add]
    exact thq_st h hw z hi (okB_le hs (by omega))
  · intro i a s s' ha hs he
    obtain ⟨hi, rfl⟩ := groups_get _ _ _ _ ha
    exact okB_le (th_stInv hs (h.po _) he) (by omega)
  · intro s _
    rw [groups_length]
    exact thq_st_end h hw z
theorem thq_pres {T : Pt} (h : T.Ok) {w : Pw} (hw : okW T w = true) (z : Int) :
    Takes Try.prog (tabP T) ra base 6 (.loop (codeOf 33 (false :: pPre))) (mkT 59 (insPre (thY (.po z)) (thP (.po z)) w 0)) (hp 0 (thH (.po z) w ⟨[], 0⟩)) fun y => PostR (thH (.po z) w) (.exit 0) [(0, thY (.po z)), (1, thP (.po z))] (runS (thStep (.po z)) (itemsAt 0 0 T.pre) ⟨[], 0⟩) y := by
  have h2 := h.pre
  refine iter_loop (C := thH (.po z) w) (step := thStep (.po z)) (ins := fun i => insPre (thY (.po z)) (thP (.po z)) w (i : Int)) (inv := fun i s => okB i s ∧ (T.e = true → s = ⟨[], 0⟩)) (itemsAt 0 0 T.pre) ?_ ?_ ?_ ⟨⟨Nat.le_refl _, Int.le_refl _, Int.le_refl _⟩, fun _ => rfl⟩
  · intro i a s ha hs
    have := (itemsAt_get _ _ _ _ _ ha).1
    exact thq_pre h hw z ha (okB_le hs.1 (by omega))
  · intro i a s s' ha hs he
    have := (itemsAt_get _ _ _ _ _ ha).1
    refine ⟨th_inv hs.1 he, fun he => ?_⟩
    rw [h.e he] at this
    simp at this
  · intro s hs
    rw [itemsAt_length]
    exact thq_pre_end h hw z hs.2
theorem thT_ok0 {T : Pt} (h : T.Ok) : ToldsOK Try.prog (tabP T) ra base 5 (thT T 0) := by
  refine sumT_ok (sumT_ok noT_ok rfl (toldX_ok (c := .loop (codeOf 33 (false :: pSt))) okBl_eq (by kernel_rfl) fun x hx => ?_)) rfl (toldX_ok (c := .loop (codeOf 33 (false :: pPre))) okBl_eq (by kernel_rfl) fun x hx => ?_)
  · obtain ⟨r, b, s, w, p, y⟩ := x
    simp only [thStD, Bool.and_eq_true, okRd, decide_eq_true_eq, okT_iff] at hx
    obtain ⟨hr, ⟨hb, hs⟩, hw⟩ := hx
    cases r with
    | pr =>
      show Takes _ _ _ _ _ _ _ (hp 0 (thC .pr w b s.l s.n)) _
      rw [thH_b _ _ hb]
      exact (thp_sts h hw hs).mono fun v hv => th_two hs hv
    | st z => cases hr
    | po z => cases hr
  · obtain ⟨r, b, s, w, p, y⟩ := x
    simp only [thPrD, Bool.and_eq_true, okRd, decide_eq_true_eq] at hx
    obtain ⟨hr, hw⟩ := hx
    cases r with
    | pr => exact (thp_pres h hw ).mono fun v hv => th_two (m := 0) ⟨Nat.le_refl _, Int.le_refl _, Int.le_refl _⟩ hv
    | st z => cases hr
    | po z => cases hr
theorem thT_ok1 {T : Pt} (h : T.Ok) : ToldsOK Try.prog (tabP T) ra base 6 (thT T 1) := by
  refine sumT_ok (sumT_ok noT_ok rfl (toldX_ok (c := .loop (codeOf 33 (false :: pSt))) okBl_eq (by kernel_rfl) fun x hx => ?_)) rfl (toldX_ok (c := .loop (codeOf 33 (false :: pPre))) okBl_eq (by kernel_rfl) fun x hx => ?_)
  · obtain ⟨r, b, s, w, p, y⟩ := x
    simp only [thStD, Bool.and_eq_true, okRd, decide_eq_true_eq, okT_iff] at hx
    obtain ⟨hr, ⟨hb, hs⟩, hw⟩ := hx
    cases r with
    | pr => cases hr
    | st z =>
      show Takes _ _ _ _ _ _ _ (hp 0 (thC (.st z) w b s.l s.n)) _
      rw [thH_b _ _ hb]
      exact (tho_sts h hw z hs).mono fun v hv => th_two hs hv
    | po z =>
      show Takes _ _ _ _ _ _ _ (hp 0 (thC (.po z) w b s.l s.n)) _
      rw [thH_b _ _ hb]
      exact (thq_sts h hw z hs).mono fun v hv => th_two hs hv
  · obtain ⟨r, b, s, w, p, y⟩ := x
    simp only [thPrD, Bool.and_eq_true, okRd, decide_eq_true_eq] at hx
    obtain ⟨hr, hw⟩ := hx
    cases r with
    | pr => cases hr
    | st z => exact (tho_pres h hw z ).mono fun v hv => th_two (m := 0) ⟨Nat.le_refl _, Int.le_refl _, Int.le_refl _⟩ hv
    | po z => exact (thq_pres h hw z ).mono fun v hv => th_two (m := 0) ⟨Nat.le_refl _, Int.le_refl _, Int.le_refl _⟩ hv
theorem thp_33 {T : Pt} (h : T.Ok) {w : Pw} (hw : okW T w = true) : Gives Try.prog (tabP T) ra base 5 33 [thY .pr, thP .pr] (hp 0 (thC .pr w true [] 0)) fun _ h' => (∃ s', thAP T .pr s' ∧ h' = hp 0 (thC .pr w false s'.l s'.n)) ∨ ∃ n, thAN T .pr n ∧ h' = hp 0 (thC .pr w true [] n) := by
  have hw' := hw
  obtain ⟨he, hn, hm⟩ := okW_iff.1 hw
  obtain ⟨e, n, m, la, ep⟩ := w
  simp only at he hn hm
  have s1 : ∀ s', thPrP T .pr s' → okT 10 false s' = true := fun s' hs => okT_iff.2 ⟨by have := hs.2; cases hl : s'.l with
    | nil => exact absurd hl this
    | cons => rfl, th_preOk h hs.1⟩
  have s2 : ∀ n, thPrN T .pr n → okT 10 true ⟨[], n⟩ = true := fun n hs => okT_iff.2 ⟨rfl, th_preOk h hs⟩
  cases e with
  | false =>
    refine gives_of_treeQ (tabP_plain T) (wP T) (thT_ok0 h) (hp_below _) (thp_fnf T n m la ep) ?_
    simp only [TreeQ.holds, rf_eq, decide_true, Bool.and_self, Bool.and_true, Bool.true_and, true_and, hw', Bool.and_eq_true, and_true]
    refine ⟨okBl_self rfl, fun s' hs => ⟨okBl_self rfl, s1 s' hs, fun s'' h2 => ⟨_, rfl, .inl ⟨s'', ⟨th_join hs.1 h2.1, h2.2⟩, rfl⟩⟩, fun n2 h2 => ⟨_, rfl, .inr ⟨n2, th_join hs.1 h2, rfl⟩⟩⟩, fun n1 hs => ⟨okBl_self rfl, s2 n1 hs, fun s'' h2 => ⟨_, rfl, .inl ⟨s'', ⟨th_join hs h2.1, h2.2⟩, rfl⟩⟩, fun n2 h2 => ⟨_, rfl, .inr ⟨n2, th_join hs h2, rfl⟩⟩⟩⟩
  | true =>
    have hn0 : n = 0 := by rw [hn, h.e he.symm]; rfl
    subst hn0
    refine gives_of_treeQ (tabP_plain T) (wP T) (thT_ok0 h) (hp_below _) (thp_fnt T m la ep) ?_
    simp only [TreeQ.holds, rf_eq, decide_true, Bool.and_self, Bool.and_true, Bool.true_and, true_and, hw', Bool.and_eq_true, and_true]
    refine ⟨okBl_self rfl, fun s' hs => ⟨okBl_self rfl, s1 s' hs, fun s'' h2 => ⟨_, rfl, .inl ⟨s'', ⟨th_join hs.1 h2.1, h2.2⟩, rfl⟩⟩, fun n2 h2 => ⟨_, rfl, .inr ⟨n2, th_join hs.1 h2, rfl⟩⟩⟩, fun n1 hs => ⟨okBl_self rfl, s2 n1 hs, fun s'' h2 => ⟨_, rfl, .inl ⟨s'', ⟨th_join hs h2.1, h2.2⟩, rfl⟩⟩, fun n2 h2 => ⟨_, rfl, .inr ⟨n2, th_join hs h2, rfl⟩⟩⟩⟩
theorem thp_rg {T : Pt} (h : T.Ok) {w : Pw} (hw : okW T w = true) : Takes Try.prog (tabP T) ra base 0 (codeOf 24 pTh) (mkT 21 ((thD T 0).ins ⟨.pr, w⟩)) (hp 0 ((thD T 0).blks ⟨.pr, w⟩)) fun y => PostL 21 ⟨.pr, w⟩ y (thD T 0).alts := by
  have hs : codeOf 24 pTh = .rangeFunc (.tmp 8) #[9, 10] (rfAs 24 pTh) (rfBd 24 pTh) := by kernel_rfl
  refine takes_range (tabP_plain T) Try.names hs (f := 33) (cap := [.ptr (.own 3 0 0 0)]) rfl ⟨_, Try.func33, by kernel_rfl⟩ (Nat.zero_le _) ?_
  refine (thp_33 h hw ).mono fun v h' hh => ?_
  rcases hh with ⟨s', hs', rfl⟩ | ⟨n, hs', rfl⟩
  · exact ⟨_, _, _, _, .ready, .normal, [1, 5], 16, _, rfl, rfl, rfl, .inl ⟨s', hs', rfl⟩⟩
  · exact ⟨_, _, _, _, .ready, .normal, [1], 16, _, rfl, rfl, rfl, .inr ⟨n, hs', rfl⟩⟩
theorem tho_33 {T : Pt} (h : T.Ok) {w : Pw} (hw : okW T w = true) (z : Int) : Gives Try.prog (tabP T) ra base 6 33 [thY (.st z), thP (.st z)] (hp 0 (thC (.st z) w true [] 0)) fun _ h' => (∃ s', thAP T (.st z) s' ∧ h' = hp 0 (thC (.st z) w false s'.l s'.n)) ∨ ∃ n, thAN T (.st z) n ∧ h' = hp 0 (thC (.st z) w true [] n) := by
  have hw' := hw
  obtain ⟨he, hn, hm⟩ := okW_iff.1 hw
  obtain ⟨e, n, m, la, ep⟩ := w
  simp only at he hn hm
  have s1 : ∀ s', thPrP T (.st z) s' → okT 10 false s' = true := fun s' hs => okT_iff.2 ⟨by have := hs.2; cases hl : s'.l with
    | nil => exact absurd hl this
    | cons => rfl, th_preOk h hs.1⟩
  have s2 : ∀ n, thPrN T (.st z) n → okT 10 true ⟨[], n⟩ = true := fun n hs => okT_iff.2 ⟨rfl, th_preOk h hs⟩
  cases e with
  | false =>
    refine gives_of_treeQ (tabP_plain T) (wP T) (thT_ok1 h) (hp_below _) (tho_fnf T z n m la ep) ?_
    simp only [TreeQ.holds, rf_eq, decide_true, Bool.and_self, Bool.and_true, Bool.true_and, true_and, hw', Bool.and_eq_true, and_true]
    refine ⟨okBl_self rfl, fun s' hs => ⟨okBl_self rfl, s1 s' hs, fun s'' h2 => ⟨_, rfl, .inl ⟨s'', ⟨th_join hs.1 h2.1, h2.2⟩, rfl⟩⟩, fun n2 h2 => ⟨_, rfl, .inr ⟨n2, th_join hs.1 h2, rfl⟩⟩⟩, fun n1 hs => ⟨okBl_self rfl, s2 n1 hs, fun s'' h2 => ⟨_, rfl, .inl ⟨s'', ⟨th_join hs h2.1, h2.2⟩, rfl⟩⟩, fun n2 h2 => ⟨_, rfl, .inr ⟨n2, th_join hs h2, rfl⟩⟩⟩⟩
  | true =>
    have hn0 : n = 0 := by rw [hn, h.e he.symm]; rfl
    subst hn0
    refine gives_of_treeQ (tabP_plain T) (wP T) (thT_ok1 h) (hp_below _) (tho_fnt T z m la ep) ?_
    simp only [TreeQ.holds, rf_eq, decide_true, Bool.and_self, Bool.and_true, Bool.true_and, true_and, hw', Bool.and_eq_true, and_true]
    refine ⟨okBl_self rfl, fun s' hs => ⟨okBl_self rfl, s1 s' hs, fun s'' h2 => ⟨_, rfl, .inl ⟨s'', ⟨th_join hs.1 h2.1, h2.2⟩, rfl⟩⟩, fun n2 h2 => ⟨_, rfl, .inr ⟨n2, th_join hs.1 h2, rfl⟩⟩⟩, fun n1 hs => ⟨okBl_self rfl, s2 n1 hs, fun s'' h2 => ⟨_, rfl, .inl ⟨s'', ⟨th_join hs h2.1, h2.2⟩, rfl⟩⟩, fun n2 h2 => ⟨_, rfl, .inr ⟨n2, th_join hs h2, rfl⟩⟩⟩⟩
theorem tho_rg {T : Pt} (h : T.Ok) {w : Pw} (hw : okW T w = true) (z : Int) : Takes Try.prog (tabP T) ra base 1 (codeOf 24 pTh) (mkT 21 ((thD T 1).ins ⟨(.st z), w⟩)) (hp 0 ((thD T 1).blks ⟨(.st z), w⟩)) fun y => PostL 21 ⟨(.st z), w⟩ y (thD T 1).alts := by
  have hs : codeOf 24 pTh = .rangeFunc (.tmp 8) #[9, 10] (rfAs 24 pTh) (rfBd 24 pTh) := by kernel_rfl
  refine takes_range (tabP_plain T) Try.names hs (f := 33) (cap := [.ptr (.own 4 0 0 0)]) rfl ⟨_, Try.func33, by kernel_rfl⟩ (Nat.succ_le_succ (Nat.zero_le _)) ?_
  refine (tho_33 h hw z ).mono fun v h' hh => ?_
  rcases hh with ⟨s', hs', rfl⟩ | ⟨n, hs', rfl⟩
  · exact ⟨_, _, _, _, .ready, .normal, [0, 2, 6], 16, _, rfl, rfl, rfl, .inl ⟨s', hs', rfl⟩⟩
  · exact ⟨_, _, _, _, .ready, .normal, [0, 2], 16, _, rfl, rfl, rfl, .inr ⟨n, hs', rfl⟩⟩
theorem thq_33 {T : Pt} (h : T.Ok) {w : Pw} (hw : okW T w = true) (z : Int) : Gives Try.prog (tabP T) ra base 6 33 [thY (.po z), thP (.po z)] (hp 0 (thC (.po z) w true [] 0)) fun _ h' => (∃ s', thAP T (.po z) s' ∧ h' = hp 0 (thC (.po z) w false s'.l s'.n)) ∨ ∃ n, thAN T (.po z) n ∧ h' = hp 0 (thC (.po z) w true [] n) := by
  have hw' := hw
  obtain ⟨he, hn, hm⟩ := okW_iff.1 hw
  obtain ⟨e, n, m, la, ep⟩ := w
  simp only at he hn hm
  have s1 : ∀ s', thPrP T (.po z) s' → okT 10 false s' = true := fun s' hs => okT_iff.2 ⟨by have := hs.2; cases hl : s'.l with
    | nil => exact absurd hl this
    | cons => rfl, th_preOk h hs.1⟩
  have s2 : ∀ n, thPrN T (.po z) n → okT 10 true ⟨[], n⟩ = true := fun n hs => okT_iff.2 ⟨rfl, th_preOk h hs⟩
  cases e with
  | false =>
    refine gives_of_treeQ (tabP_plain T) (wP T) (thT_ok1 h) (hp_below _) (thq_fnf T z n m la ep) ?_
    simp only [TreeQ.holds, rf_eq, decide_true, Bool.and_self, Bool.and_true, Bool.true_and, true_and, hw', Bool.and_eq_true, and_true]
    refine ⟨okBl_self rfl, fun s' hs => ⟨okBl_self rfl, s1 s' hs, fun s'' h2 => ⟨_, rfl, .inl ⟨s'', ⟨th_join hs.1 h2.1, h2.2⟩, rfl⟩⟩, fun n2 h2 => ⟨_, rfl, .inr ⟨n2, th_join hs.1 h2, rfl⟩⟩⟩, fun n1 hs => ⟨okBl_self rfl, s2 n1 hs, fun s'' h2 => ⟨_, rfl, .inl ⟨s'', ⟨th_join hs h2.1, h2.2⟩, rfl⟩⟩, fun n2 h2 => ⟨_, rfl, .inr ⟨n2, th_join hs h2, rfl⟩⟩⟩⟩
  | true =>
    have hn0 : n = 0 := by rw [hn, h.e he.symm]; rfl
    subst hn0
    refine gives_of_treeQ (tabP_plain T) (wP T) (thT_ok1 h) (hp_below _) (thq_fnt T z m la ep) ?_
    simp only [TreeQ.holds, rf_eq, decide_true, Bool.and_self, Bool.and_true, Bool.true_and, true_and, hw', Bool.and_eq_true, and_true]
    refine ⟨okBl_self rfl, fun s' hs => ⟨okBl_self rfl, s1 s' hs, fun s'' h2 => ⟨_, rfl, .inl ⟨s'', ⟨th_join hs.1 h2.1, h2.2⟩, rfl⟩⟩, fun n2 h2 => ⟨_, rfl, .inr ⟨n2, th_join hs.1 h2, rfl⟩⟩⟩, fun n1 hs => ⟨okBl_self rfl, s2 n1 hs, fun s'' h2 => ⟨_, rfl, .inl ⟨s'', ⟨th_join hs h2.1, h2.2⟩, rfl⟩⟩, fun n2 h2 => ⟨_, rfl, .inr ⟨n2, th_join hs h2, rfl⟩⟩⟩⟩
theorem thq_rg {T : Pt} (h : T.Ok) {w : Pw} (hw : okW T w = true) (z : Int) : Takes Try.prog (tabP T) ra base 1 (codeOf 24 pTh) (mkT 21 ((thD T 1).ins ⟨(.po z), w⟩)) (hp 0 ((thD T 1).blks ⟨(.po z), w⟩)) fun y => PostL 21 ⟨(.po z), w⟩ y (thD T 1).alts := by
  have hs : codeOf 24 pTh = .rangeFunc (.tmp 8) #[9, 10] (rfAs 24 pTh) (rfBd 24 pTh) := by kernel_rfl
  refine takes_range (tabP_plain T) Try.names hs (f := 33) (cap := [.ptr (.own 4 0 0 0)]) rfl ⟨_, Try.func33, by kernel_rfl⟩ (Nat.succ_le_succ (Nat.zero_le _)) ?_
  refine (thq_33 h hw z ).mono fun v h' hh => ?_
  rcases hh with ⟨s', hs', rfl⟩ | ⟨n, hs', rfl⟩
  · exact ⟨_, _, _, _, .ready, .normal, [0, 2, 6], 16, _, rfl, rfl, rfl, .inl ⟨s', hs', rfl⟩⟩
  · exact ⟨_, _, _, _, .ready, .normal, [0, 2], 16, _, rfl, rfl, rfl, .inr ⟨n, hs', rfl⟩⟩
theorem thTR_ok0 {T : Pt} (h : T.Ok) : ToldsOK Try.prog (tabP T) ra base 0 (thTR T 0) := by
  refine sumT_ok noT_ok rfl (toldR_ok (c := codeOf 24 pTh) (by kernel_rfl) fun x hx => ?_)
  obtain ⟨r, w⟩ := x
  simp only [thD, Bool.and_eq_true, okRd, decide_eq_true_eq] at hx
  obtain ⟨hr, hw⟩ := hx
  cases r with
  | pr => exact thp_rg h hw
  | st z => cases hr
  | po z => cases hr
theorem thTR_ok1 {T : Pt} (h : T.Ok) : ToldsOK Try.prog (tabP T) ra base 1 (thTR T 1) := by
  refine sumT_ok noT_ok rfl (toldR_ok (c := codeOf 24 pTh) (by kernel_rfl) fun x hx => ?_)
  obtain ⟨r, w⟩ := x
  simp only [thD, Bool.and_eq_true, okRd, decide_eq_true_eq] at hx
  obtain ⟨hr, hw⟩ := hx
  cases r with
  | pr => cases hr
  | st z => exact tho_rg h hw z
  | po z => exact thq_rg h hw z
theorem thosep_gives {T : Pt} (h : T.Ok) {w : Pw} (hw : okW T w = true) : Gives Try.prog (tabP T) ra base 0 24 [w.v, Rt.fn .pr] (hp 0 (Rt.num .pr)) fun v h' => (∃ s', thAP T .pr s' ∧ v = .slice (.own 0 0 0 1) s'.l.length none ∧ h' = hp 0 (Rt.num .pr ++ [intsB s'.l])) ∨ ∃ n, thAN T .pr n ∧ v = .nils ∧ h' = hp 0 (Rt.num .pr) := by
  have hw' := hw
  obtain ⟨he, hn, hm⟩ := okW_iff.1 hw
  obtain ⟨e, n, m, la, ep⟩ := w
  simp only at he hn hm
  cases e with
  | false =>
    refine gives_of_treeQ (tabP_plain T) (wP T) (thTR_ok0 h) (hp_below _) (thosepf T n m la ep) ?_
    simp only [TreeQ.holds, rf_eq, decide_true, Bool.and_self, Bool.and_true, Bool.true_and, true_and, hw', Bool.and_eq_true, and_true]
    exact ⟨fun s' hs => ⟨_, rfl, .inl ⟨s', hs, rfl, rfl⟩⟩, fun n hs => ⟨_, rfl, .inr ⟨n, hs, rfl, rfl⟩⟩⟩
  | true =>
    have hn0 : n = 0 := by rw [hn, h.e he.symm]; rfl
    subst hn0
    refine gives_of_treeQ (tabP_plain T) (wP T) (thTR_ok0 h) (hp_below _) (thosept T m la ep) ?_
    simp only [TreeQ.holds, rf_eq, decide_true, Bool.and_self, Bool.and_true, Bool.true_and, true_and, hw', Bool.and_eq_true, and_true]
    exact ⟨fun s' hs => ⟨_, rfl, .inl ⟨s', hs, rfl, rfl⟩⟩, fun n hs => ⟨_, rfl, .inr ⟨n, hs, rfl, rfl⟩⟩⟩
theorem thoseo_gives {T : Pt} (h : T.Ok) {w : Pw} (hw : okW T w = true) (z : Int) : Gives Try.prog (tabP T) ra base 1 24 [w.v, Rt.fn (.st z)] (hp 0 (Rt.num (.st z))) fun v h' => (∃ s', thAP T (.st z) s' ∧ v = .slice (.own 1 0 0 1) s'.l.length none ∧ h' = hp 0 (Rt.num (.st z) ++ [intsB s'.l])) ∨ ∃ n, thAN T (.st z) n ∧ v = .nils ∧ h' = hp 0 (Rt.num (.st z)) := by
  have hw' := hw
  obtain ⟨he, hn, hm⟩ := okW_iff.1 hw
  obtain ⟨e, n, m, la, ep⟩ := w
  simp only at he hn hm
  cases e with
  | false =>
    refine gives_of_treeQ (tabP_plain T) (wP T) (thTR_ok1 h) (hp_below _) (thoseof T z n m la ep) ?_
    simp only [TreeQ.holds, rf_eq, decide_true, Bool.and_self, Bool.and_true, Bool.true_and, true_and, hw', Bool.and_eq_true, and_true]
    exact ⟨fun s' hs => ⟨_, rfl, .inl ⟨s', hs, rfl, rfl⟩⟩, fun n hs => ⟨_, rfl, .inr ⟨n, hs, rfl, rfl⟩⟩⟩
  | true =>
    have hn0 : n = 0 := by rw [hn, h.e he.symm]; rfl
    subst hn0
    refine gives_of_treeQ (tabP_plain T) (wP T) (thTR_ok1 h) (hp_below _) (thoseot T z m la ep) ?_
    simp only [TreeQ.holds, rf_eq, decide_true, Bool.and_self, Bool.and_true, Bool.true_and, true_and, hw', Bool.and_eq_true, and_true]
    exact ⟨fun s' hs => ⟨_, rfl, .inl ⟨s', hs, rfl, rfl⟩⟩, fun n hs => ⟨_, rfl, .inr ⟨n, hs, rfl, rfl⟩⟩⟩
theorem thoseq_gives {T : Pt} (h : T.Ok) {w : Pw} (hw : okW T w = true) (z : Int) : Gives Try.prog (tabP T) ra base 1 24 [w.v, Rt.fn (.po z)] (hp 0 (Rt.num (.po z))) fun v h' => (∃ s', thAP T (.po z) s' ∧ v = .slice (.own 1 0 0 1) s'.l.length none ∧ h' = hp 0 (Rt.num (.po z) ++ [intsB s'.l])) ∨ ∃ n, thAN T (.po z) n ∧ v = .nils ∧ h' = hp 0 (Rt.num (.po z)) := by
  have hw' := hw
  obtain ⟨he, hn, hm⟩ := okW_iff.1 hw
  obtain ⟨e, n, m, la, ep⟩ := w
  simp only at he hn hm
  cases e with
  | false =>
    refine gives_of_treeQ (tabP_plain T) (wP T) (thTR_ok1 h) (hp_below _) (thoseqf T z n m la ep) ?_
    simp only [TreeQ.holds, rf_eq, decide_true, Bool.and_self, Bool.and_true, Bool.true_and, true_and, hw', Bool.and_eq_true, and_true]
    exact ⟨fun s' hs => ⟨_, rfl, .inl ⟨s', hs, rfl, rfl⟩⟩, fun n hs => ⟨_, rfl, .inr ⟨n, hs, rfl, rfl⟩⟩⟩
  | true =>
    have hn0 : n = 0 := by rw [hn, h.e he.symm]; rfl
    subst hn0
    refine gives_of_treeQ (tabP_plain T) (wP T) (thTR_ok1 h) (hp_below _) (thoseqt T z m la ep) ?_
    simp only [TreeQ.holds, rf_eq, decide_true, Bool.and_self, Bool.and_true, Bool.true_and, true_and, hw', Bool.and_eq_true, and_true]
    exact ⟨fun s' hs => ⟨_, rfl, .inl ⟨s', hs, rfl, rfl⟩⟩, fun n hs => ⟨_, rfl, .inr ⟨n, hs, rfl, rfl⟩⟩⟩
end
end Go.Proofs.Ytompijagcjjamaa

namespace Go.Proofs.Ytompijagcjjamaa
open Ab
def O4.v (x : O4) : AVal := .agg [.int .i64 x.k, .int .i64 x.a, .int .i64 x.b, .int .i64 x.g]
def o41 (us : List AVal) (_ : List Blk) : Option O4 := match us with
  | [.agg [.int _ k, .int _ a, .int _ b, .int _ g]] => some ⟨k, a, b, g⟩
  | _ => none
def inZ (n l m : Int) : Bool := decide (l ≤ n) && decide (n ≤ m)
def sizeB (x : O4) : Bool := inZ x.a 1 1073741824
def mayB (x : O4) : Bool :=
  if x.k = 0 then decide (x.g = 0) else
  if x.k = 1 then decide (x.g = 0) && (inZ x.a 1 4294967295 && inZ x.b 0 4294967295) else
  if x.k = 2 then decide (x.g = 0) && (sizeB x && inZ x.b 0 (x.a - 1)) else
  if x.k = 3 then decide (x.g = 0) && inZ x.a 1 3 else
  if x.k = 4 then inZ x.g 0 3 && (sizeB x && decide (x.b = 0)) else
  if x.k = 5 then inZ x.g 0 3 && (sizeB x && (decide (1 ≤ x.b) && (decide (Int.tmod x.a x.b = 0) && decide (x.a ≤ 4 * x.b)))) else
  if x.k = 6 then inZ x.g 0 3 && (sizeB x && decide (x.b = 0)) else
  if x.k = 7 then decide (x.g = 0) && (sizeB x && decide (x.b = 0)) else false
def checkE (x : O4) : Int := if mayB x = true then 0 else 13
def classE (x : O4) : Int := if 0 ≤ x.k ∧ x.k ≤ 3 then 0 else if 4 ≤ x.k ∧ x.k ≤ 6 then 1 else if x.k = 7 then 2 else -1
def checkD : CDeal O4 := ⟨fun x => [x.v], fun _ => [], fun _ => true, fun x => .int .i64 (checkE x), fun _ => []⟩
def classD : CDeal O4 := ⟨fun x => [x.v], fun _ => [], fun _ => true, fun x => .int .i64 (classE x), fun _ => []⟩
def SO : Sums := sumF 12 (callG classD o41) (sumF 22 (callG checkD o41) noS)
end Go.Proofs.Ytompijagcjjamaa

namespace Go.Proofs.Ytompijagcjjamaa
open Ab
theorem check_0 (E : Nat → Nat → Seg) (a b g : Int) : ((callB Try.prog E noS (W E noS noL) 22 [O4.v ⟨0, a, b, g⟩]).full ⟨hp 0 [], 0, [], []⟩ leafV).take 0 (cs 7 (.x (cs 11 (.leaf [] 1)) (.c (.c (.c (.x (cs 6 (.leaf [] 1)) (cs 5 (.leaf [] 1)))))))) =
(.br (decide (g < 0)) (.leaf (.ret, mkT 1 [(0, .int .i64 13)], [])) (.br (decide (0 < g)) (.leaf (.ret, mkT 1 [(0, .int .i64 13)], [])) (.leaf (.ret, mkT 1 [(0, .int .i64 0)], [])))) := by kernel_rfl
theorem check_1 (E : Nat → Nat → Seg) (a b g : Int) : ((callB Try.prog E noS (W E noS noL) 22 [O4.v ⟨1, a, b, g⟩]).full ⟨hp 0 [], 0, [], []⟩ leafV).take 0 (cs 7 (.x (cs 11 (.leaf [] 1)) (.c (.c (.c (.x (cs 6 (.leaf [] 1)) (.c (.c (.c (.x (.c (.c (.x (.c (.c (.x (.c (.c (.c (.x (.leaf [] 1) (.leaf [] 1))))) (cs 5 (.leaf [] 1))))) (cs 5 (.leaf [] 1))))) (cs 9 (.leaf [] 1)))))))))))) =
(let i0 : Tree State := (.leaf (.ret, mkT 1 [(0, .int .i64 13)], []))
(.br (decide (g < 0)) i0 (.br (decide (0 < g)) i0 (.br (decide (1 ≤ a)) (.br (decide (a ≤ 4294967295)) (.br (decide (0 ≤ b)) (.br (!decide (b ≤ 4294967295)) i0 (.leaf (.ret, mkT 1 [(0, .int .i64 0)], []))) i0) i0) i0)))) := by kernel_rfl
theorem check_2 (E : Nat → Nat → Seg) (a b g : Int) : ((callB Try.prog E noS (W E noS noL) 22 [O4.v ⟨2, a, b, g⟩]).full ⟨hp 0 [], 0, [], []⟩ leafV).take 0 (cs 7 (.x (cs 11 (.leaf [] 1)) (.c (.c (.c (.x (cs 6 (.leaf [] 1)) (.c (.c (.c (.x (.c (.c (.x (cs 5 (.x (.c (.c (.c (.x (.leaf [] 1) (.leaf [] 1))))) (cs 5 (.leaf [] 1)))) (cs 8 (.leaf [] 1))))) (cs 12 (.leaf [] 1)))))))))))) =
(let i0 : Tree State := (.leaf (.ret, mkT 1 [(0, .int .i64 13)], []))
(.br (decide (g < 0)) i0 (.br (decide (0 < g)) i0 (.br (decide (1 ≤ a)) (.br (decide (a ≤ 1073741824)) (.br (decide (0 ≤ b)) (.br (!decide (b ≤ wr .i64 (a - 1))) i0 (.leaf (.ret, mkT 1 [(0, .int .i64 0)], []))) i0) i0) i0)))) := by kernel_rfl
theorem check_3 (E : Nat → Nat → Seg) (a b g : Int) : ((callB Try.prog E noS (W E noS noL) 22 [O4.v ⟨3, a, b, g⟩]).full ⟨hp 0 [], 0, [], []⟩ leafV).take 0 (cs 7 (.x (cs 11 (.leaf [] 1)) (.c (.c (.c (.x (cs 6 (.leaf [] 1)) (.c (.c (.c (.x (.c (.c (.c (.x (.leaf [] 1) (.leaf [] 1))))) (cs 5 (.leaf [] 1)))))))))))) =
(let i0 : Tree State := (.leaf (.ret, mkT 1 [(0, .int .i64 13)], []))
(.br (decide (g < 0)) i0 (.br (decide (0 < g)) i0 (.br (decide (1 ≤ a)) (.br (!decide (a ≤ 3)) i0 (.leaf (.ret, mkT 1 [(0, .int .i64 0)], []))) i0)))) := by kernel_rfl
theorem check_4 (E : Nat → Nat → Seg) (a b g : Int) : ((callB Try.prog E noS (W E noS noL) 22 [O4.v ⟨4, a, b, g⟩]).full ⟨hp 0 [], 0, [], []⟩ leafV).take 0 (cs 7 (.x (cs 11 (.leaf [] 1)) (.c (.c (.c (.x (cs 6 (.leaf [] 1)) (.c (.c (.c (.x (.c (.c (.x (.c (.c (.c (.x (.leaf [] 1) (.leaf [] 1))))) (cs 5 (.leaf [] 1))))) (cs 9 (.leaf [] 1)))))))))))) =
(let i0 : Tree State := (.leaf (.ret, mkT 1 [(0, .int .i64 13)], []))
(.br (decide (g < 0)) i0 (.br (decide (3 < g)) i0 (.br (decide (1 ≤ a)) (.br (decide (a ≤ 1073741824)) (.br (!decide (b = 0)) i0 (.leaf (.ret, mkT 1 [(0, .int .i64 0)], []))) i0) i0)))) := by kernel_rfl
theorem check_5 (E : Nat → Nat → Seg) (a b g : Int) : ((callB Try.prog E noS (W E noS noL) 22 [O4.v ⟨5, a, b, g⟩]).full ⟨hp 0 [], 0, [], []⟩ leafV).take 0 (cs 7 (.x (cs 11 (.leaf [] 1)) (.c (.c (.c (.x (cs 6 (.leaf [] 1)) (.c (.c (.c (.x (.c (.c (.x (.c (.c (.x (cs 4 (.n (.c (.x (cs 6 (.x (.leaf [] 1) (.leaf [] 1))) (cs 8 (.leaf [] 1)))))) (cs 15 (.leaf [] 1))))) (cs 19 (.leaf [] 1))))) (cs 23 (.leaf [] 1)))))))))))) =
(let i0 : Tree State := (.leaf (.ret, mkT 1 [(0, .int .i64 13)], []))
(.br (decide (g < 0)) i0 (.br (decide (3 < g)) i0 (.br (decide (1 ≤ a)) (.br (decide (a ≤ 1073741824)) (.br (decide (1 ≤ b)) (.need (decide ¬b = 0) (.br (decide (Int.tmod a b = 0)) (.br (!decide (a ≤ wr .i64 (4 * b))) i0 (.leaf (.ret, mkT 1 [(0, .int .i64 0)], []))) i0)) i0) i0) i0)))) := by kernel_rfl
theorem check_6 (E : Nat → Nat → Seg) (a b g : Int) : ((callB Try.prog E noS (W E noS noL) 22 [O4.v ⟨6, a, b, g⟩]).full ⟨hp 0 [], 0, [], []⟩ leafV).take 0 (cs 7 (.x (cs 11 (.leaf [] 1)) (.c (.c (.c (.x (cs 6 (.leaf [] 1)) (.c (.c (.c (.x (.c (.c (.x (.c (.c (.c (.x (.leaf [] 1) (.leaf [] 1))))) (cs 5 (.leaf [] 1))))) (cs 9 (.leaf [] 1)))))))))))) =
(let i0 : Tree State := (.leaf (.ret, mkT 1 [(0, .int .i64 13)], []))
(.br (decide (g < 0)) i0 (.br (decide (3 < g)) i0 (.br (decide (1 ≤ a)) (.br (decide (a ≤ 1073741824)) (.br (!decide (b = 0)) i0 (.leaf (.ret, mkT 1 [(0, .int .i64 0)], []))) i0) i0)))) := by kernel_rfl
theorem check_7 (E : Nat → Nat → Seg) (a b g : Int) : ((callB Try.prog E noS (W E noS noL) 22 [O4.v ⟨7, a, b, g⟩]).full ⟨hp 0 [], 0, [], []⟩ leafV).take 0 (cs 7 (.x (cs 11 (.leaf [] 1)) (.c (.c (.c (.x (cs 6 (.leaf [] 1)) (.c (.c (.c (.x (.c (.c (.x (.c (.c (.c (.x (.leaf [] 1) (.leaf [] 1))))) (cs 5 (.leaf [] 1))))) (cs 9 (.leaf [] 1)))))))))))) =
(let i0 : Tree State := (.leaf (.ret, mkT 1 [(0, .int .i64 13)], []))
(.br (decide (g < 0)) i0 (.br (decide (0 < g)) i0 (.br (decide (1 ≤ a)) (.br (decide (a ≤ 1073741824)) (.br (!decide (b = 0)) i0 (.leaf (.ret, mkT 1 [(0, .int .i64 0)], []))) i0) i0)))) := by kernel_rfl
theorem check_lo (E : Nat → Nat → Seg) (k a b g : Int) : ((callB Try.prog E noS (W E noS noL) 22 [O4.v ⟨k, a, b, g⟩]).full ⟨hp 0 [], 0, [], []⟩ leafV).take 0 (.t (cs 4 (.leaf [] 1))) =
(.need (decide (k < 0)) (.leaf (.ret, mkT 1 [(0, .int .i64 13)], []))) := by kernel_rfl
theorem check_hi (E : Nat → Nat → Seg) (k a b g : Int) : ((callB Try.prog E noS (W E noS noL) 22 [O4.v ⟨k, a, b, g⟩]).full ⟨hp 0 [], 0, [], []⟩ leafV).take 0 (.f (.c (.c (.t (.leaf [] 1))))) =
(.but (decide (k < 0)) (.need (decide (7 < k)) (.leaf (.ret, mkT 1 [(0, .int .i64 13)], [])))) := by kernel_rfl
theorem class_0 (E : Nat → Nat → Seg) (a b g : Int) : ((callB Try.prog E noS (W E noS noL) 12 [O4.v ⟨0, a, b, g⟩]).full ⟨hp 0 [], 0, [], []⟩ leafV).take 0 (cs 6 (.leaf [] 1)) =
(.leaf (.ret, mkT 1 [(0, .int .i64 0)], [])) := by kernel_rfl
theorem class_1 (E : Nat → Nat → Seg) (a b g : Int) : ((callB Try.prog E noS (W E noS noL) 12 [O4.v ⟨1, a, b, g⟩]).full ⟨hp 0 [], 0, [], []⟩ leafV).take 0 (cs 6 (.leaf [] 1)) =
(.leaf (.ret, mkT 1 [(0, .int .i64 0)], [])) := by kernel_rfl
theorem class_2 (E : Nat → Nat → Seg) (a b g : Int) : ((callB Try.prog E noS (W E noS noL) 12 [O4.v ⟨2, a, b, g⟩]).full ⟨hp 0 [], 0, [], []⟩ leafV).take 0 (cs 6 (.leaf [] 1)) =
(.leaf (.ret, mkT 1 [(0, .int .i64 0)], [])) := by kernel_rfl
theorem class_3 (E : Nat → Nat → Seg) (a b g : Int) : ((callB Try.prog E noS (W E noS noL) 12 [O4.v ⟨3, a, b, g⟩]).full ⟨hp 0 [], 0, [], []⟩ leafV).take 0 (cs 6 (.leaf [] 1)) =
(.leaf (.ret, mkT 1 [(0, .int .i64 0)], [])) := by kernel_rfl
theorem class_4 (E : Nat → Nat → Seg) (a b g : Int) : ((callB Try.prog E noS (W E noS noL) 12 [O4.v ⟨4, a, b, g⟩]).full ⟨hp 0 [], 0, [], []⟩ leafV).take 0 (cs 6 (.leaf [] 1)) =
(.leaf (.ret, mkT 1 [(0, .int .i64 1)], [])) := by kernel_rfl
theorem class_5 (E : Nat → Nat → Seg) (a b g : Int) : ((callB Try.prog E noS (W E noS noL) 12 [O4.v ⟨5, a, b, g⟩]).full ⟨hp 0 [], 0, [], []⟩ leafV).take 0 (cs 6 (.leaf [] 1)) =
(.leaf (.ret, mkT 1 [(0, .int .i64 1)], [])) := by kernel_rfl
theorem class_6 (E : Nat → Nat → Seg) (a b g : Int) : ((callB Try.prog E noS (W E noS noL) 12 [O4.v ⟨6, a, b, g⟩]).full ⟨hp 0 [], 0, [], []⟩ leafV).take 0 (cs 6 (.leaf [] 1)) =
(.leaf (.ret, mkT 1 [(0, .int .i64 1)], [])) := by kernel_rfl
theorem class_7 (E : Nat → Nat → Seg) (a b g : Int) : ((callB Try.prog E noS (W E noS noL) 12 [O4.v ⟨7, a, b, g⟩]).full ⟨hp 0 [], 0, [], []⟩ leafV).take 0 (cs 6 (.leaf [] 1)) =
(.leaf (.ret, mkT 1 [(0, .int .i64 2)], [])) := by kernel_rfl
theorem class_lo (E : Nat → Nat → Seg) (k a b g : Int) : ((callB Try.prog E noS (W E noS noL) 12 [O4.v ⟨k, a, b, g⟩]).full ⟨hp 0 [], 0, [], []⟩ leafV).take 0 (.t (cs 4 (.leaf [] 1))) =
(.need (decide (k < 0)) (.leaf (.ret, mkT 1 [(0, .int .i64 (-1))], []))) := by kernel_rfl
theorem class_hi (E : Nat → Nat → Seg) (k a b g : Int) : ((callB Try.prog E noS (W E noS noL) 12 [O4.v ⟨k, a, b, g⟩]).full ⟨hp 0 [], 0, [], []⟩ leafV).take 0 (.f (.c (.c (.t (.leaf [] 1))))) =
(.but (decide (k < 0)) (.need (decide (7 < k)) (.leaf (.ret, mkT 1 [(0, .int .i64 (-1))], [])))) := by kernel_rfl
end Go.Proofs.Ytompijagcjjamaa

namespace Go.Proofs.Ytompijagcjjamaa
open Ab
section
variable {E : Nat → Nat → Seg} {ra : Nat → Nat → Nat × Nat} {base : Nat}
theorem wE (hE : Plain E) {S : Sums} (hS : SumsOK Try.prog E ra base S) : ExecOK Try.prog E ra base (W E S noL) := W_ok hS noL_ok
theorem kinds (k : Int) : k < 0 ∨ 7 < k ∨ k = 0 ∨ k = 1 ∨ k = 2 ∨ k = 3 ∨ k = 4 ∨ k = 5 ∨ k = 6 ∨ k = 7 := by omega
theorem may_big {k a b g : Int} (h : k < 0 ∨ 7 < k) : mayB ⟨k, a, b, g⟩ = false := by
  unfold mayB
  simp only
  rw [if_neg (by omega), if_neg (by omega), if_neg (by omega), if_neg (by omega), if_neg (by omega), if_neg (by omega), if_neg (by omega), if_neg (by omega)]
theorem e13 {x : O4} (h : ¬ mayB x = true) : (13 : Int) = checkE x := by rw [checkE, if_neg h]
theorem e0 {x : O4} (h : mayB x = true) : (0 : Int) = checkE x := by rw [checkE, if_pos h]
theorem slid {a b : Int} (h1 : 1 ≤ a) (h2 : a ≤ 1073741824) (h3 : 1 ≤ b) (h4 : Int.tmod a b = 0) : b ≤ a ∧ wr .i64 (4 * b) = 4 * b := by
  rw [Int.tmod_eq_emod_of_nonneg (by omega)] at h4
  have : b ≤ a := Int.le_of_dvd (by omega) (Int.dvd_of_emod_eq_zero h4)
  exact ⟨this, wr_in ⟨by omega, by omega⟩⟩
def Ends (x : O4) (y : State) : Prop := ∃ v, y.2.1 = [v] ∧ (v = .int .i64 (checkE x) ∧ y.2.2 = hp 0 [])
theorem no_end {x : O4} (h : ¬ mayB x = true) : Ends x (.ret, mkT 1 [(0, .int .i64 13)], []) := ⟨_, rfl, congrArg _ (e13 h), rfl⟩
theorem yes_end {x : O4} (h : mayB x = true) : Ends x (.ret, mkT 1 [(0, .int .i64 0)], []) := ⟨_, rfl, congrArg _ (e0 h), rfl⟩
theorem may_iff0 {a b g : Int} : mayB ⟨0, a, b, g⟩ = true ↔ g = 0 := by
  rw [show mayB ⟨0, a, b, g⟩ = decide (g = 0) from rfl]
  simp only [inZ, sizeB, Bool.and_eq_true, decide_eq_true_eq]
theorem may_iff1 {a b g : Int} : mayB ⟨1, a, b, g⟩ = true ↔ g = 0 ∧ (1 ≤ a ∧ a ≤ 4294967295) ∧ 0 ≤ b ∧ b ≤ 4294967295 := by
  rw [show mayB ⟨1, a, b, g⟩ = (decide (g = 0) && (inZ a 1 4294967295 && inZ b 0 4294967295)) from rfl]
  simp only [inZ, sizeB, Bool.and_eq_true, decide_eq_true_eq]
theorem may_iff2 {a b g : Int} : mayB ⟨2, a, b, g⟩ = true ↔ g = 0 ∧ (1 ≤ a ∧ a ≤ 1073741824) ∧ 0 ≤ b ∧ b ≤ a - 1 := by
  rw [show mayB ⟨2, a, b, g⟩ = (decide (g = 0) && (sizeB ⟨2, a, b, g⟩ && inZ b 0 (a - 1))) from rfl]
  simp only [inZ, sizeB, Bool.and_eq_true, decide_eq_true_eq]
theorem may_iff3 {a b g : Int} : mayB ⟨3, a, b, g⟩ = true ↔ g = 0 ∧ 1 ≤ a ∧ a ≤ 3 := by
  rw [show mayB ⟨3, a, b, g⟩ = (decide (g = 0) && inZ a 1 3) from rfl]
  simp only [inZ, sizeB, Bool.and_eq_true, decide_eq_true_eq]
theorem may_iff4 {a b g : Int} : mayB ⟨4, a, b, g⟩ = true ↔ (0 ≤ g ∧ g ≤ 3) ∧ (1 ≤ a ∧ a ≤ 1073741824) ∧ b = 0 := by
  rw [show mayB ⟨4, a, b, g⟩ = (inZ g 0 3 && (sizeB ⟨4, a, b, g⟩ && decide (b = 0))) from rfl]
  simp only [inZ, sizeB, Bool.and_eq_true, decide_eq_true_eq]
theorem may_iff5 {a b g : Int} : mayB ⟨5, a, b, g⟩ = true ↔ (0 ≤ g ∧ g ≤ 3) ∧ (1 ≤ a ∧ a ≤ 1073741824) ∧ 1 ≤ b ∧ Int.tmod a b = 0 ∧ a ≤ 4 * b := by
  rw [show mayB ⟨5, a, b, g⟩ = (inZ g 0 3 && (sizeB ⟨5, a, b, g⟩ && (decide (1 ≤ b) && (decide (Int.tmod a b = 0) && decide (a ≤ 4 * b))))) from rfl]
  simp only [inZ, sizeB, Bool.and_eq_true, decide_eq_true_eq]
theorem may_iff6 {a b g : Int} : mayB ⟨6, a, b, g⟩ = true ↔ (0 ≤ g ∧ g ≤ 3) ∧ (1 ≤ a ∧ a ≤ 1073741824) ∧ b = 0 := by
  rw [show mayB ⟨6, a, b, g⟩ = (inZ g 0 3 && (sizeB ⟨6, a, b, g⟩ && decide (b = 0))) from rfl]
  simp only [inZ, sizeB, Bool.and_eq_true, decide_eq_true_eq]
theorem may_iff7 {a b g : Int} : mayB ⟨7, a, b, g⟩ = true ↔ g = 0 ∧ (1 ≤ a ∧ a ≤ 1073741824) ∧ b = 0 := by
  rw [show mayB ⟨7, a, b, g⟩ = (decide (g = 0) && (sizeB ⟨7, a, b, g⟩ && decide (b = 0))) from rfl]
  simp only [inZ, sizeB, Bool.and_eq_true, decide_eq_true_eq]
theorem check_g0 (hE : Plain E) (hS : SumsOK Try.prog E ra base noS) (a b g : Int) : Gives Try.prog E ra base 0 22 [O4.v ⟨0, a, b, g⟩] (hp 0 []) fun v h' => v = .int .i64 (checkE ⟨0, a, b, g⟩) ∧ h' = hp 0 [] := by
  refine (gives_of_tree hE (wE hE hS) hS (hp_below _) (check_0 E a b g) (Tree.holds_mono (Q := Ends ⟨0, a, b, g⟩) (fun _ h => h) ?_)).2
  have hi := may_iff0 (a := a) (b := b) (g := g)
  simp only [Tree.holds, rf_eq, decide_true, Bool.and_self, Bool.and_true, Bool.true_and, true_and, decide_eq_true_eq, decide_eq_false_iff_not, Bool.not_eq_true', Bool.not_eq_false']
  repeat' first
    | apply And.intro
    | intro
  all_goals first
    | exact no_end (by rw [hi]; omega)
    | exact yes_end (by rw [hi]; omega)
    | exact mno_end (by rw [hi]; omega)
    | exact myes_end (by rw [hi]; omega)
    | omega
theorem check_g1 (hE : Plain E) (hS : SumsOK Try.prog E ra base noS) (a b g : Int) : Gives Try.prog E ra base 0 22 [O4.v ⟨1, a, b, g⟩] (hp 0 []) fun v h' => v = .int .i64 (checkE ⟨1, a, b, g⟩) ∧ h' = hp 0 [] := by
  refine (gives_of_tree hE (wE hE hS) hS (hp_below _) (check_1 E a b g) (Tree.holds_mono (Q := Ends ⟨1, a, b, g⟩) (fun _ h => h) ?_)).2
  have hi := may_iff1 (a := a) (b := b) (g := g)
  simp only [Tree.holds, rf_eq, decide_true, Bool.and_self, Bool.and_true, Bool.true_and, true_and, decide_eq_true_eq, decide_eq_false_iff_not, Bool.not_eq_true', Bool.not_eq_false']
  repeat' first
    | apply And.intro
    | intro
  all_goals first
    | exact no_end (by rw [hi]; omega)
    | exact yes_end (by rw [hi]; omega)
    | exact mno_end (by rw [hi]; omega)
    | exact myes_end (by rw [hi]; omega)
    | omega
theorem check_g3 (hE : Plain E) (hS : SumsOK Try.prog E ra base noS) (a b g : Int) : Gives Try.prog E ra base 0 22 [O4.v ⟨3, a, b, g⟩] (hp 0 []) fun v h' => v = .int .i64 (checkE ⟨3, a, b, g⟩) ∧ h' = hp 0 [] := by
  refine (gives_of_tree hE (wE hE hS) hS (hp_below _) (check_3 E a b g) (Tree.holds_mono (Q := Ends ⟨3, a, b, g⟩) (fun _ h => h) ?_)).2
  have hi := may_iff3 (a := a) (b := b) (g := g)
  simp only [Tree.holds, rf_eq, decide_true, Bool.and_self, Bool.and_true, Bool.true_and, true_and, decide_eq_true_eq, decide_eq_false_iff_not, Bool.not_eq_true', Bool.not_eq_false']
  repeat' first
    | apply And.intro
    | intro
  all_goals first
    | exact no_end (by rw [hi]; omega)
    | exact yes_end (by rw [hi]; omega)
    | exact mno_end (by rw [hi]; omega)
    | exact myes_end (by rw [hi]; omega)
    | omega
theorem check_g4 (hE : Plain E) (hS : SumsOK Try.prog E ra base noS) (a b g : Int) : Gives Try.prog E ra base 0 22 [O4.v ⟨4, a, b, g⟩] (hp 0 []) fun v h' => v = .int .i64 (checkE ⟨4, a, b, g⟩) ∧ h' = hp 0 [] := by
  refine (gives_of_tree hE (wE hE hS) hS (hp_below _) (check_4 E a b g) (Tree.holds_mono (Q := Ends ⟨4, a, b, g⟩) (fun _ h => h) ?_)).2
  have hi := may_iff4 (a := a) (b := b) (g := g)
  simp only [Tree.holds, rf_eq, decide_true, Bool.and_self, Bool.and_true, Bool.true_and, true_and, decide_eq_true_eq, decide_eq_false_iff_not, Bool.not_eq_true', Bool.not_eq_false']
  repeat' first
    | apply And.intro
    | intro
  all_goals first
    | exact no_end (by rw [hi]; omega)
    | exact yes_end (by rw [hi]; omega)
    | exact mno_end (by rw [hi]; omega)
    | exact myes_end (by rw [hi]; omega)
    | omega
theorem check_g6 (hE : Plain E) (hS : SumsOK Try.prog E ra base noS) (a b g : Int) : Gives Try.prog E ra base 0 22 [O4.v ⟨6, a, b, g⟩] (hp 0 []) fun v h' => v = .int .i64 (checkE ⟨6, a, b, g⟩) ∧ h' = hp 0 [] := by
  refine (gives_of_tree hE (wE hE hS) hS (hp_below _) (check_6 E a b g) (Tree.holds_mono (Q := Ends ⟨6, a, b, g⟩) (fun _ h => h) ?_)).2
  have hi := may_iff6 (a := a) (b := b) (g := g)
  simp only [Tree.holds, rf_eq, decide_true, Bool.and_self, Bool.and_true, Bool.true_and, true_and, decide_eq_true_eq, decide_eq_false_iff_not, Bool.not_eq_true', Bool.not_eq_false']
  repeat' first
    | apply And.intro
    | intro
  all_goals first
    | exact no_end (by rw [hi]; omega)
    | exact yes_end (by rw [hi]; omega)
    | exact mno_end (by rw [hi]; omega)
    | exact myes_end (by rw [hi]; omega)
    | omega
theorem check_g7 (hE : Plain E) (hS : SumsOK Try.prog E ra base noS) (a b g : Int) : Gives Try.prog E ra base 0 22 [O4.v ⟨7, a, b, g⟩] (hp 0 []) fun v h' => v = .int .i64 (checkE ⟨7, a, b, g⟩) ∧ h' = hp 0 [] := by
  refine (gives_of_tree hE (wE hE hS) hS (hp_below _) (check_7 E a b g) (Tree.holds_mono (Q := Ends ⟨7, a, b, g⟩) (fun _ h => h) ?_)).2
  have hi := may_iff7 (a := a) (b := b) (g := g)
  simp only [Tree.holds, rf_eq, decide_true, Bool.and_self, Bool.and_true, Bool.true_and, true_and, decide_eq_true_eq, decide_eq_false_iff_not, Bool.not_eq_true', Bool.not_eq_false']
  repeat' first
    | apply And.intro
    | intro
  all_goals first
    | exact no_end (by rw [hi]; omega)
    | exact yes_end (by rw [hi]; omega)
    | exact mno_end (by rw [hi]; omega)
    | exact myes_end (by rw [hi]; omega)
    | omega
theorem check_g2 (hE : Plain E) (hS : SumsOK Try.prog E ra base noS) (a b g : Int) : Gives Try.prog E ra base 0 22 [O4.v ⟨2, a, b, g⟩] (hp 0 []) fun v h' => v = .int .i64 (checkE ⟨2, a, b, g⟩) ∧ h' = hp 0 [] := by
  refine (gives_of_tree hE (wE hE hS) hS (hp_below _) (check_2 E a b g) (Tree.holds_mono (Q := Ends ⟨2, a, b, g⟩) (fun _ h => h) ?_)).2
  have hi := may_iff2 (a := a) (b := b) (g := g)
  simp only [Tree.holds, rf_eq, decide_true, Bool.and_self, Bool.and_true, Bool.true_and, true_and, decide_eq_true_eq, decide_eq_false_iff_not, Bool.not_eq_true', Bool.not_eq_false']
  refine ⟨fun _ => no_end (by rw [hi]; omega), fun _ => ⟨fun _ => no_end (by rw [hi]; omega), fun _ => ⟨fun h1 => ⟨fun h2 => ?_, fun _ => no_end (by rw [hi]; omega)⟩, fun _ => no_end (by rw [hi]; omega)⟩⟩⟩
  rw [show wr .i64 (a - 1) = a - 1 from wr_in ⟨by omega, by omega⟩]
  exact ⟨fun _ => ⟨fun _ => no_end (by rw [hi]; omega), fun _ => yes_end (by rw [hi]; omega)⟩, fun _ => no_end (by rw [hi]; omega)⟩
theorem check_g5 (hE : Plain E) (hS : SumsOK Try.prog E ra base noS) (a b g : Int) : Gives Try.prog E ra base 0 22 [O4.v ⟨5, a, b, g⟩] (hp 0 []) fun v h' => v = .int .i64 (checkE ⟨5, a, b, g⟩) ∧ h' = hp 0 [] := by
  refine (gives_of_tree hE (wE hE hS) hS (hp_below _) (check_5 E a b g) (Tree.holds_mono (Q := Ends ⟨5, a, b, g⟩) (fun _ h => h) ?_)).2
  have hi := may_iff5 (a := a) (b := b) (g := g)
  simp only [Tree.holds, rf_eq, decide_true, Bool.and_self, Bool.and_true, Bool.true_and, true_and, decide_eq_true_eq, decide_eq_false_iff_not, Bool.not_eq_true', Bool.not_eq_false']
  refine ⟨fun _ => no_end (by rw [hi]; omega), fun _ => ⟨fun _ => no_end (by rw [hi]; omega), fun _ => ⟨fun h1 => ⟨fun h2 => ⟨fun h3 => ⟨by omega, fun h4 => ?_, fun _ => no_end (by rw [hi]; omega)⟩, fun _ => no_end (by rw [hi]; omega)⟩, fun _ => no_end (by rw [hi]; omega)⟩, fun _ => no_end (by rw [hi]; omega)⟩⟩⟩
  rw [(slid h1 h2 h3 h4).2]
  exact ⟨fun _ => no_end (by rw [hi]; omega), fun _ => yes_end (by rw [hi]; omega)⟩
theorem check_glo (hE : Plain E) {k a b g : Int} (h : k < 0) : Gives Try.prog E ra base 0 22 [O4.v ⟨k, a, b, g⟩] (hp 0 []) fun v h' => v = .int .i64 (checkE ⟨k, a, b, g⟩) ∧ h' = hp 0 [] := by
  refine (gives_of_tree hE (wE hE sumNone_ok) sumNone_ok (hp_below _) (check_lo E k a b g) (Tree.holds_mono (Q := Ends ⟨k, a, b, g⟩) (fun _ h => h) ?_)).2
  have hi : ¬ mayB ⟨k, a, b, g⟩ = true := by rw [may_big (.inl h)]; decide
  simp only [Tree.holds, rf_eq, decide_true, Bool.and_self, Bool.and_true, Bool.true_and, true_and, decide_eq_true_eq, decide_eq_false_iff_not, Bool.not_eq_true', Bool.not_eq_false']
  first
  | exact ⟨h, no_end hi⟩
  | exact ⟨by omega, h, no_end hi⟩
  | exact no_end hi
theorem check_ghi (hE : Plain E) {k a b g : Int} (h : 7 < k) : Gives Try.prog E ra base 0 22 [O4.v ⟨k, a, b, g⟩] (hp 0 []) fun v h' => v = .int .i64 (checkE ⟨k, a, b, g⟩) ∧ h' = hp 0 [] := by
  refine (gives_of_tree hE (wE hE sumNone_ok) sumNone_ok (hp_below _) (check_hi E k a b g) (Tree.holds_mono (Q := Ends ⟨k, a, b, g⟩) (fun _ h => h) ?_)).2
  have hi : ¬ mayB ⟨k, a, b, g⟩ = true := by rw [may_big (.inr h)]; decide
  simp only [Tree.holds, rf_eq, decide_true, Bool.and_self, Bool.and_true, Bool.true_and, true_and, decide_eq_true_eq, decide_eq_false_iff_not, Bool.not_eq_true', Bool.not_eq_false']
  first
  | exact ⟨h, no_end hi⟩
  | exact ⟨by omega, h, no_end hi⟩
  | exact no_end hi
theorem class_glo (hE : Plain E) {k a b g : Int} (h : k < 0) : Gives Try.prog E ra base 0 12 [O4.v ⟨k, a, b, g⟩] (hp 0 []) fun v h' => v = .int .i64 (classE ⟨k, a, b, g⟩) ∧ h' = hp 0 [] := by
  refine (gives_of_tree hE (wE hE sumNone_ok) sumNone_ok (hp_below _) (class_lo E k a b g) ?_).2
  have hi : classE ⟨k, a, b, g⟩ = -1 := by
    rw [classE, if_neg (by simp only; omega), if_neg (by simp only; omega), if_neg (by simp only; omega)]
  rw [hi]
  simp only [Tree.holds, rf_eq, decide_true, Bool.and_self, Bool.and_true, Bool.true_and, true_and, decide_eq_true_eq, decide_eq_false_iff_not, Bool.not_eq_true', Bool.not_eq_false']
  repeat' first
    | apply And.intro
    | intro
  all_goals first
    | exact ⟨_, rfl, rfl, rfl⟩
    | exact rfl
    | omega
theorem class_ghi (hE : Plain E) {k a b g : Int} (h : 7 < k) : Gives Try.prog E ra base 0 12 [O4.v ⟨k, a, b, g⟩] (hp 0 []) fun v h' => v = .int .i64 (classE ⟨k, a, b, g⟩) ∧ h' = hp 0 [] := by
  refine (gives_of_tree hE (wE hE sumNone_ok) sumNone_ok (hp_below _) (class_hi E k a b g) ?_).2
  have hi : classE ⟨k, a, b, g⟩ = -1 := by
    rw [classE, if_neg (by simp only; omega), if_neg (by simp only; omega), if_neg (by simp only; omega)]
  rw [hi]
  simp only [Tree.holds, rf_eq, decide_true, Bool.and_self, Bool.and_true, Bool.true_and, true_and, decide_eq_true_eq, decide_eq_false_iff_not, Bool.not_eq_true', Bool.not_eq_false']
  repeat' first
    | apply And.intro
    | intro
  all_goals first
    | exact ⟨_, rfl, rfl, rfl⟩
    | exact rfl
    | omega
theorem class_g0 (hE : Plain E) (a b g : Int) : Gives Try.prog E ra base 0 12 [O4.v ⟨0, a, b, g⟩] (hp 0 []) fun v h' => v = .int .i64 (classE ⟨0, a, b, g⟩) ∧ h' = hp 0 [] :=
  (gives_of_tree hE (wE hE sumNone_ok) sumNone_ok (hp_below _) (class_0 E a b g) ⟨_, rfl, rfl, rfl⟩).2
theorem class_g1 (hE : Plain E) (a b g : Int) : Gives Try.prog E ra base 0 12 [O4.v ⟨1, a, b, g⟩] (hp 0 []) fun v h' => v = .int .i64 (classE ⟨1, a, b, g⟩) ∧ h' = hp 0 [] :=
  (gives_of_tree hE (wE hE sumNone_ok) sumNone_ok (hp_below _) (class_1 E a b g) ⟨_, rfl, rfl, rfl⟩).2
theorem class_g2 (hE : Plain E) (a b g : Int) : Gives Try.prog E ra base 0 12 [O4.v ⟨2, a, b, g⟩] (hp 0 []) fun v h' => v = .int .i64 (classE ⟨2, a, b, g⟩) ∧ h' = hp 0 [] :=
  (gives_of_tree hE (wE hE sumNone_ok) sumNone_ok (hp_below _) (class_2 E a b g) ⟨_, rfl, rfl, rfl⟩).2
theorem class_g3 (hE : Plain E) (a b g : Int) : Gives Try.prog E ra base 0 12 [O4.v ⟨3, a, b, g⟩] (hp 0 []) fun v h' => v = .int .i64 (classE ⟨3, a, b, g⟩) ∧ h' = hp 0 [] :=
  (gives_of_tree hE (wE hE sumNone_ok) sumNone_ok (hp_below _) (class_3 E a b g) ⟨_, rfl, rfl, rfl⟩).2
theorem class_g4 (hE : Plain E) (a b g : Int) : Gives Try.prog E ra base 0 12 [O4.v ⟨4, a, b, g⟩] (hp 0 []) fun v h' => v = .int .i64 (classE ⟨4, a, b, g⟩) ∧ h' = hp 0 [] :=
  (gives_of_tree hE (wE hE sumNone_ok) sumNone_ok (hp_below _) (class_4 E a b g) ⟨_, rfl, rfl, rfl⟩).2
theorem class_g5 (hE : Plain E) (a b g : Int) : Gives Try.prog E ra base 0 12 [O4.v ⟨5, a, b, g⟩] (hp 0 []) fun v h' => v = .int .i64 (classE ⟨5, a, b, g⟩) ∧ h' = hp 0 [] :=
  (gives_of_tree hE (wE hE sumNone_ok) sumNone_ok (hp_below _) (class_5 E a b g) ⟨_, rfl, rfl, rfl⟩).2
theorem class_g6 (hE : Plain E) (a b g : Int) : Gives Try.prog E ra base 0 12 [O4.v ⟨6, a, b, g⟩] (hp 0 []) fun v h' => v = .int .i64 (classE ⟨6, a, b, g⟩) ∧ h' = hp 0 [] :=
  (gives_of_tree hE (wE hE sumNone_ok) sumNone_ok (hp_below _) (class_6 E a b g) ⟨_, rfl, rfl, rfl⟩).2
theorem class_g7 (hE : Plain E) (a b g : Int) : Gives Try.prog E ra base 0 12 [O4.v ⟨7, a, b, g⟩] (hp 0 []) fun v h' => v = .int .i64 (classE ⟨7, a, b, g⟩) ∧ h' = hp 0 [] :=
  (gives_of_tree hE (wE hE sumNone_ok) sumNone_ok (hp_below _) (class_7 E a b g) ⟨_, rfl, rfl, rfl⟩).2
theorem check_g (hE : Plain E) (x : O4) : Gives Try.prog E ra base 0 22 [x.v] (hp 0 []) fun v h' => v = .int .i64 (checkE x) ∧ h' = hp 0 [] := by
  obtain ⟨k, a, b, g⟩ := x
  rcases kinds k with h | h | rfl | rfl | rfl | rfl | rfl | rfl | rfl | rfl
  · exact check_glo hE h
  · exact check_ghi hE h
  · exact check_g0 hE sumNone_ok a b g
  · exact check_g1 hE sumNone_ok a b g
  · exact check_g2 hE sumNone_ok a b g
  · exact check_g3 hE sumNone_ok a b g
  · exact check_g4 hE sumNone_ok a b g
  · exact check_g5 hE sumNone_ok a b g
  · exact check_g6 hE sumNone_ok a b g
  · exact check_g7 hE sumNone_ok a b g
theorem class_g (hE : Plain E) (x : O4) : Gives Try.prog E ra base 0 12 [x.v] (hp 0 []) fun v h' => v = .int .i64 (classE x) ∧ h' = hp 0 [] := by
  obtain ⟨k, a, b, g⟩ := x
  rcases kinds k with h | h | rfl | rfl | rfl | rfl | rfl | rfl | rfl | rfl
  · exact class_glo hE h
  · exact class_ghi hE h
  · exact class_g0 hE a b g
  · exact class_g1 hE a b g
  · exact class_g2 hE a b g
  · exact class_g3 hE a b g
  · exact class_g4 hE a b g
  · exact class_g5 hE a b g
  · exact class_g6 hE a b g
  · exact class_g7 hE a b g
theorem SO_ok (hE : Plain E) : SumsOK Try.prog E ra base SO := sumG_deal hE (sumG_deal hE noS_ok ⟨_, Try.func22, by kernel_rfl⟩ fun x _ => check_g hE x) ⟨_, Try.func12, by kernel_rfl⟩ fun x _ => class_g hE x
end
end Go.Proofs.Ytompijagcjjamaa

namespace Go.Proofs.Ytompijagcjjamaa
open Ab
structure SgX where
  s : Int
  w : Pw
  p : Int
  y : Pq
structure SgW where
  s : Int
  w : Pw
def okI (m : Nat) (s : Int) : Bool := decide (0 ≤ s) && decide (s ≤ m)
def pSg : List Bool := [false, true, false, true]
def sgTs : List (Nat × AVal) := [(3, .ptr (.own 0 0 0 0)), (4, .ptr (.own 1 0 0 0)), (7, .fn 33 [.ptr (.own 2 0 0 0)])]
noncomputable def sgL : Blk := .loop (mkT 16 sgTs) [8, 9] (rfAs 11 pSg) (rfBd 11 pSg) .ready none
noncomputable def sgLd : Blk := .loop (mkT 16 sgTs) [8, 9] (rfAs 11 pSg) (rfBd 11 pSg) .done (some .ret)
noncomputable def sgC (w : Pw) (s : Int) : List Blk := [numB s, numB 0, w.blk, sgL]
noncomputable def sgE (w : Pw) (v : Int) : List Blk := [numB 0, numB v, w.blk, sgLd]
noncomputable def sgStep (w : Pw) (s : Int) (a : Nd) : Res Int := match decide (s = 0) with
  | true => .off (sgE w a.s)
  | false => .on (s - 1)
def sgY : AVal := .yld 3
def sgP : AVal := .ptr (.own 2 0 0 0)
def sgPoP (T : Pt) (x : SgX) (s' : Int) : Prop := runS (sgStep x.w) (itemsAt (x.p + 1) 1 (poL T x.y)) x.s = .on s'
def sgPoE (T : Pt) (x : SgX) (v : Int) : Prop := runS (sgStep x.w) (itemsAt (x.p + 1) 1 (poL T x.y)) x.s = .off (sgE x.w v)
def sgStP (T : Pt) (x : SgX) (s' : Int) : Prop := runS (sgStep x.w) (stItems T.po 0 T.st) x.s = .on s'
def sgStE (T : Pt) (x : SgX) (v : Int) : Prop := runS (sgStep x.w) (stItems T.po 0 T.st) x.s = .off (sgE x.w v)
def sgPrP (T : Pt) (x : SgX) (s' : Int) : Prop := runS (sgStep x.w) (itemsAt 0 0 T.pre) x.s = .on s'
def sgPrE (T : Pt) (x : SgX) (v : Int) : Prop := runS (sgStep x.w) (itemsAt 0 0 T.pre) x.s = .off (sgE x.w v)
def sgAP (T : Pt) (x : SgW) (s' : Int) : Prop := runS (sgStep x.w) (nodesT T) x.s = .on s'
def sgAE (T : Pt) (x : SgW) (v : Int) : Prop := runS (sgStep x.w) (nodesT T) x.s = .off (sgE x.w v)
def sgOf (Bs : List Blk) : Option (Int × Pw) := match Bs with
  | .segs [⟨_, _, [.int _ [s]]⟩] :: _ :: A :: _ => match pwOf A with
    | some w => some (s, w)
    | none => none
  | _ => none
noncomputable def sgPoD (T : Pt) : RDeal SgX where
  ins x := insPo sgY x.w.m x.p x.y 0
  blks x := sgC x.w x.s
  pre x := okI 1000 x.s && okQ T x.p x.y
  alts := [⟨Int, .exit 4, sgPoP T, fun x _ => outPo sgY x.w.m x.p, fun x s => sgC x.w s⟩, ⟨Int, .ret, sgPoE T, fun x _ => outPo sgY x.w.m x.p, fun x v => sgE x.w v⟩]
def sgPoO (us : List AVal) (Bs : List Blk) : Option SgX := match us with
  | [_, .int _ p, _, _, _, v, _, _] => match pqOf v, sgOf Bs with
    | some y, some (s, w) => some ⟨s, w, p, y⟩
    | _, _ => none
  | _ => none
noncomputable def sgTPo (T : Pt) : Tolds := sumT 33 pPo (toldX okBl 59 (sgPoD T) [0, 5, 25, 26, 27, 41, 42, 43] sgPoO) noT
noncomputable def sgStD (T : Pt) : RDeal SgX where
  ins x := insSt sgY x.w.m 0
  blks x := sgC x.w x.s
  pre x := okI 1000 x.s && okW T x.w
  alts := [⟨Int, .exit 2, sgStP T, fun _ _ => [], fun x s => sgC x.w s⟩, ⟨Int, .ret, sgStE T, fun _ _ => [], fun x v => sgE x.w v⟩]
noncomputable def sgPrD (T : Pt) : RDeal SgX where
  ins x := insPre sgY sgP x.w 0
  blks x := sgC x.w x.s
  pre x := okI 1000 x.s && okW T x.w
  alts := [⟨Int, .exit 0, sgPrP T, fun _ _ => [(0, sgY), (1, sgP)], fun x s => sgC x.w s⟩, ⟨Int, .ret, sgPrE T, fun _ _ => [(0, sgY), (1, sgP)], fun x v => sgE x.w v⟩]
def sgStO (_ : List AVal) (Bs : List Blk) : Option SgX := match sgOf Bs with
  | some (s, w) => some ⟨s, w, 0, ⟨true, 0, 0⟩⟩
  | none => none
noncomputable def sgT (T : Pt) : Tolds := sumT 33 pPre (toldX okBl 59 (sgPrD T) [0, 1, 10, 11, 12] sgStO) (sumT 33 pSt (toldX okBl 59 (sgStD T) [0, 25, 26, 27] sgStO) noT)
noncomputable def sgD (T : Pt) : RDeal SgW where
  ins _ := sgTs
  blks x := [numB x.s, numB 0, x.w.blk]
  pre x := okI 1000 x.s && okW T x.w
  alts := [⟨Int, .normal, sgAP T, fun _ _ => [(4, .ptr (.own 0 0 0 0))], fun _ _ => [numB 0]⟩, ⟨Int, .ret, sgAE T, fun _ _ => [(4, .ptr (.own 0 0 0 0))], fun _ v => [numB v]⟩]
def sgRO (_ : List AVal) (Bs : List Blk) : Option SgW := match Bs with
  | [.segs [⟨_, _, [.int _ [s]]⟩], _, A] => match pwOf A with
    | some w => some ⟨s, w⟩
    | none => none
  | _ => none
noncomputable def sgTR (T : Pt) : Tolds := sumT 11 pSg (toldR 16 (sgD T) [3, 4, 7] sgRO) noT
def pCk : List Bool := [false, true, false, true, true, true]
def ckTs : List (Nat × AVal) := [(2, .ptr (.own 0 0 0 0)), (3, .ptr (.own 1 0 0 0)), (4, .ptr (.own 2 0 0 0)), (25, .fn 33 [.ptr (.own 3 0 0 0)])]
noncomputable def ckL : Blk := .loop (mkT 43 ckTs) [26, 27] (rfAs 7 pCk) (rfBd 7 pCk) .ready none
noncomputable def ckLd : Blk := .loop (mkT 43 ckTs) [26, 27] (rfAs 7 pCk) (rfBd 7 pCk) .done (some .ret)
noncomputable def ckC (w : Pw) (n : Int) : List Blk := [numB 0, numB 0, numB n, w.blk, ckL]
structure Ce where
  n : Int
  e : Int
noncomputable def ckE (w : Pw) (v : Ce) : List Blk := [numB v.n, numB v.e, numB v.n, w.blk, ckLd]
def ndErr (a : Nd) : Int := match decide (checkE a.x = 0) with
  | false => 13
  | true => match decide ((decide (0 < a.s) && decide (a.i = 0)) = decide (classE a.x = 0)) with
    | true => 14
    | false => 0
noncomputable def ckStep (w : Pw) (n : Int) (a : Nd) : Res Int := match decide (ndErr a = 0) with
  | false => .off (ckE w ⟨n, ndErr a⟩)
  | true => .on (n + 1)
def ckY : AVal := .yld 4
def ckP : AVal := .ptr (.own 3 0 0 0)
def ckPoP (T : Pt) (x : SgX) (s' : Int) : Prop := runS (ckStep x.w) (itemsAt (x.p + 1) 1 (poL T x.y)) x.s = .on s'
def ckPoE (T : Pt) (x : SgX) (v : Ce) : Prop := runS (ckStep x.w) (itemsAt (x.p + 1) 1 (poL T x.y)) x.s = .off (ckE x.w v)
def ckStP (T : Pt) (x : SgX) (s' : Int) : Prop := runS (ckStep x.w) (stItems T.po 0 T.st) x.s = .on s'
def ckStE (T : Pt) (x : SgX) (v : Ce) : Prop := runS (ckStep x.w) (stItems T.po 0 T.st) x.s = .off (ckE x.w v)
def ckPrP (T : Pt) (x : SgX) (s' : Int) : Prop := runS (ckStep x.w) (itemsAt 0 0 T.pre) x.s = .on s'
def ckPrE (T : Pt) (x : SgX) (v : Ce) : Prop := runS (ckStep x.w) (itemsAt 0 0 T.pre) x.s = .off (ckE x.w v)
def ckAP (T : Pt) (w : Pw) (s' : Int) : Prop := runS (ckStep w) (nodesT T) 0 = .on s'
def ckAE (T : Pt) (w : Pw) (v : Ce) : Prop := runS (ckStep w) (nodesT T) 0 = .off (ckE w v)
def ckOf (Bs : List Blk) : Option (Int × Pw) := match Bs with
  | _ :: _ :: .segs [⟨_, _, [.int _ [s]]⟩] :: A :: _ => match pwOf A with
    | some w => some (s, w)
    | none => none
  | _ => none
noncomputable def ckPoD (T : Pt) : RDeal SgX where
  ins x := insPo ckY x.w.m x.p x.y 0
  blks x := ckC x.w x.s
  pre x := okI 100 x.s && okQ T x.p x.y
  alts := [⟨Int, .exit 4, ckPoP T, fun x _ => outPo ckY x.w.m x.p, fun x s => ckC x.w s⟩, ⟨Ce, .ret, ckPoE T, fun x _ => outPo ckY x.w.m x.p, fun x v => ckE x.w v⟩]
def ckPoO (us : List AVal) (Bs : List Blk) : Option SgX := match us with
  | [_, .int _ p, _, _, _, v, _, _] => match pqOf v, ckOf Bs with
    | some y, some (s, w) => some ⟨s, w, p, y⟩
    | _, _ => none
  | _ => none
noncomputable def ckTPo (T : Pt) : Tolds := sumT 33 pPo (toldX okBl 59 (ckPoD T) [0, 5, 25, 26, 27, 41, 42, 43] ckPoO) noT
noncomputable def ckStD (T : Pt) : RDeal SgX where
  ins x := insSt ckY x.w.m 0
  blks x := ckC x.w x.s
  pre x := okI 10 x.s && okW T x.w
  alts := [⟨Int, .exit 2, ckStP T, fun _ _ => [], fun x s => ckC x.w s⟩, ⟨Ce, .ret, ckStE T, fun _ _ => [], fun x v => ckE x.w v⟩]
noncomputable def ckPrD (T : Pt) : RDeal SgX where
  ins x := insPre ckY ckP x.w 0
  blks x := ckC x.w x.s
  pre x := okI 0 x.s && okW T x.w
  alts := [⟨Int, .exit 0, ckPrP T, fun _ _ => [(0, ckY), (1, ckP)], fun x s => ckC x.w s⟩, ⟨Ce, .ret, ckPrE T, fun _ _ => [(0, ckY), (1, ckP)], fun x v => ckE x.w v⟩]
def ckStO (_ : List AVal) (Bs : List Blk) : Option SgX := match ckOf Bs with
  | some (s, w) => some ⟨s, w, 0, ⟨true, 0, 0⟩⟩
  | none => none
noncomputable def ckT (T : Pt) : Tolds := sumT 33 pPre (toldX okBl 59 (ckPrD T) [0, 1, 10, 11, 12] ckStO) (sumT 33 pSt (toldX okBl 59 (ckStD T) [0, 25, 26, 27] ckStO) noT)
noncomputable def ckD (T : Pt) : RDeal Pw where
  ins _ := ckTs
  blks w := [numB 0, numB 0, numB 0, w.blk]
  pre w := okW T w
  alts := [⟨Int, .normal, ckAP T, fun _ _ => [(2, .ptr (.own 0 0 0 0)), (3, .ptr (.own 1 0 0 0))], fun _ _ => [numB 0, numB 0]⟩,
    ⟨Ce, .ret, ckAE T, fun _ _ => [(2, .ptr (.own 0 0 0 0)), (3, .ptr (.own 1 0 0 0))], fun _ v => [numB v.n, numB v.e]⟩]
def ckRO (_ : List AVal) (Bs : List Blk) : Option Pw := match Bs with
  | [_, _, _, A] => pwOf A
  | _ => none
noncomputable def ckTR (T : Pt) : Tolds := sumT 7 pCk (toldR 43 (ckD T) [2, 3, 4, 25] ckRO) noT
def pLg : List Bool := [false, true, false, true, true]
def insLg (m : Nat) (p : Int) : List (Nat × AVal) := [(3, .bool false), (23, stV m), (24, .int .i64 m), (25, .int .i64 p)]
def lgD (T : Pt) : RDeal Nat where
  ins m := insLg m 0
  blks _ := []
  pre m := decide (m = T.st.length)
  alts := [⟨Unit, .exit 0, fun _ _ => True, fun _ _ => [(3, .bool false)], fun _ _ => []⟩]
def lgO (us : List AVal) (_ : List Blk) : Option Nat := match us with
  | [_, .slice (.ro 1 _ _ _) m _, _, _] => some m
  | _ => none
def lgT (T : Pt) : Tolds := sumT 20 pLg (toldR 38 (lgD T) [3, 23, 24, 25] lgO) noT
def longD (T : Pt) : CDeal Pw := ⟨fun w => [w.v], fun _ => [], fun w => okW T w, fun _ => .bool false, fun _ => []⟩
def pwO (us : List AVal) (_ : List Blk) : Option Pw := match us with
  | [v] => pwOfV v
  | _ => none
def SC (T : Pt) : Sums := sumF 20 (callG (longD T) pwO) SO
end Go.Proofs.Ytompijagcjjamaa

namespace Go.Proofs.Ytompijagcjjamaa
open Ab
theorem sg_pre (T : Pt) (n m : Nat) (la ep i c : Int) : ((W (tabP T) noS noL 33 (false :: pPre) false (codeOf 33 (false :: pPre)) (mkT 59 (insPre sgY sgP ⟨false, n, m, la, ep⟩ i))).full ⟨hp 0 (sgC ⟨false, n, m, la, ep⟩ c), 4, [], []⟩ leafS).take 4 (.x (.n (.n (.c (.x (.c (.leaf [0, 1, 2, 3] 3)) (.c (.leaf [0, 1, 2, 3] 7171)))))) (.leaf [0, 1, 2, 3] 3)) =
(let i0 : Blk := (.segs [⟨1, 1, [.int .i64 [0]]⟩])
let j0 := (planB false n m la ep)
(.br (decide (i < (↑n : Int))) (.need (decide (0 ≤ i) && decide (i < (↑n : Int))) (.need (decide (0 + Int.toNat i < List.length (Pt.pre T))) (.br (decide (c = 0)) (.leaf (.ret, mkT 59 [(0, .yld 3), (1, .ptr (.own 2 0 0 0))], [(0, some (.segs [⟨1, 1, [.int .i64 [c]]⟩])), (1, some i0), (2, some j0), (3, some (sgLd))])) (.leaf (.normal, mkT 59 [(0, .yld 3), (1, .ptr (.own 2 0 0 0)), (10, .slice (.ro 0 0 0 0) n none), (11, .int .i64 (↑n : Int)), (12, .int .i64 (wr .i64 (i + 1)))], [(0, some (.segs [⟨1, 1, [.int .i64 [wr .i64 (c - 1)]]⟩])), (1, some i0), (2, some j0), (3, some (sgL))]))))) (.leaf (.exit 0, mkT 59 [(0, .yld 3), (1, .ptr (.own 2 0 0 0))], [(0, some (.segs [⟨1, 1, [.int .i64 [c]]⟩])), (1, some i0), (2, some j0), (3, some (sgL))])))) := by kernel_rfl
theorem sg_pree (T : Pt) (m : Nat) (la ep c : Int) : ((W (tabP T) noS noL 33 (false :: pPre) false (codeOf 33 (false :: pPre)) (mkT 59 (insPre sgY sgP ⟨true, 0, m, la, ep⟩ 0))).full ⟨hp 0 (sgC ⟨true, 0, m, la, ep⟩ c), 4, [], []⟩ leafS).take 4 (.c (.leaf [0, 1, 2, 3] 3)) =
(.leaf (.exit 0, mkT 59 [(0, .yld 3), (1, .ptr (.own 2 0 0 0))], [(0, some (.segs [⟨1, 1, [.int .i64 [c]]⟩])), (1, some (.segs [⟨1, 1, [.int .i64 [0]]⟩])), (2, some (planB true 0 m la ep)), (3, some (sgL))])) := by kernel_rfl
theorem sg_pof (T : Pt) (n m : Nat) (par q : Nat) (la ep p j c : Int) : ((W (tabP T) noS noL 33 (false :: pPo) false (codeOf 33 (false :: pPo)) (mkT 59 (insPo sgY m p ⟨false, par, q⟩ j))).full ⟨hp 0 (sgC ⟨false, n, m, la, ep⟩ c), 4, [], []⟩ leafS).take 4 (.x (.n (.n (.c (.x (.c (.leaf [0, 1, 2, 3] 234881025)) (.c (.leaf [0, 1, 2, 3] 15393397669921)))))) (.leaf [0, 1, 2, 3] 234881025)) =
(let i0 : List (Nat × AVal) := [(0, .yld 3), (25, .slice (.ro 1 0 0 0) m none), (26, .int .i64 (↑m : Int)), (27, .int .i64 p)]
let j0 := (planB false n m la ep)
(.br (decide (j < (↑q : Int))) (.need (decide (0 ≤ j) && decide (j < (↑q : Int))) (.need (decide (0 + Int.toNat j < List.length (Pt.po T par))) (.br (decide (c = 0)) (.leaf (.ret, mkT 59 i0, [(0, some (.segs [⟨1, 1, [.int .i64 [c]]⟩])), (1, some (.segs [⟨1, 1, [.int .i64 [wr .i64 (p + 1)]]⟩])), (2, some j0), (3, some (sgLd))])) (.leaf (.normal, mkT 59 [(0, .yld 3), (5, .int .i64 p), (25, .slice (.ro 1 0 0 0) m none), (26, .int .i64 (↑m : Int)), (27, .int .i64 p), (41, .slice (.ro 2 par 0 0) q none), (42, .int .i64 (↑q : Int)), (43, .int .i64 (wr .i64 (j + 1)))], [(0, some (.segs [⟨1, 1, [.int .i64 [wr .i64 (c - 1)]]⟩])), (1, some (.segs [⟨1, 1, [.int .i64 [0]]⟩])), (2, some j0), (3, some (sgL))]))))) (.leaf (.exit 4, mkT 59 i0, [(0, some (.segs [⟨1, 1, [.int .i64 [c]]⟩])), (1, some (.segs [⟨1, 1, [.int .i64 [0]]⟩])), (2, some j0), (3, some (sgL))])))) := by kernel_rfl
theorem sg_pef (T : Pt) (n m : Nat) (la ep p c : Int) : ((W (tabP T) noS noL 33 (false :: pPo) false (codeOf 33 (false :: pPo)) (mkT 59 (insPo sgY m p ⟨true, 0, 0⟩ 0))).full ⟨hp 0 (sgC ⟨false, n, m, la, ep⟩ c), 4, [], []⟩ leafS).take 4 (.c (.leaf [0, 1, 2, 3] 234881025)) =
(.leaf (.exit 4, mkT 59 [(0, .yld 3), (25, .slice (.ro 1 0 0 0) m none), (26, .int .i64 (↑m : Int)), (27, .int .i64 p)], [(0, some (.segs [⟨1, 1, [.int .i64 [c]]⟩])), (1, some (.segs [⟨1, 1, [.int .i64 [0]]⟩])), (2, some (planB false n m la ep)), (3, some (sgL))])) := by kernel_rfl
theorem sg_stf (T : Pt) (n m : Nat) (la ep p c : Int) : ((execT (W (tabP T) noS noL) (sgTPo T) 4 400 33 (false :: pSt) (codeOf 33 (false :: pSt)) (mkT 59 (insSt sgY m p)) ⟨hp 0 (sgC ⟨false, n, m, la, ep⟩ c), 4, [], []⟩ leafQ)).take 4 (.x (.n (.n (.x (.c (.x (.c (.leaf [0, 1, 2, 3] 0)) (.c (.c (.n (.n (.n (.b (.a (.i (.leaf [0, 1, 2, 3] 234881025))) (.a (.i (.leaf [0, 1, 2, 3] 0))))))))))) (.c (.x (.c (.leaf [0, 1, 2, 3] 0)) (.c (.c (.n (.n (.n (.b (.a (.i (.leaf [0, 1, 2, 3] 234881025))) (.a (.i (.leaf [0, 1, 2, 3] 0)))))))))))))) (.leaf [0, 1, 2, 3] 0)) =
(let m0 : Seg := ⟨1, 1, [.int .i64 [0]]⟩
let i0 := (okBl [.segs [⟨1, 1, [.int .i64 [wr .i64 (c - 1)]]⟩], .segs [m0], planB false n m la ep, sgL] [.segs [⟨1, 1, [.int .i64 [wr .i64 (c - 1)]]⟩], .segs [m0], planB false n m la ep, sgL])
let u0 := (planB false n m la ep)
let j0 : TreeQ State := (.leaf (.ret, mkT 59 [], [(0, some (.segs [⟨1, 1, [.int .i64 [c]]⟩])), (1, some (.segs [⟨1, 1, [.int .i64 [wr .i64 (p + 1)]]⟩])), (2, some u0), (3, some (sgLd))]))
let v0 : List (Nat × AVal) := [(0, .yld 3), (25, .slice (.ro 1 0 0 0) m none), (26, .int .i64 (↑m : Int)), (27, .int .i64 (wr .i64 (p + 1)))]
let w0 := (0 + Int.toNat p)
let x0 := (List.getD [c] 0 0 - 1)
(.br (decide (p < (↑m : Int))) (.need (decide (0 ≤ p) && decide (p < (↑m : Int))) (.need (decide (0 + Int.toNat p < List.length (Pt.st T))) (.br (List.getD (Pt.fs T) w0 true) (.br (decide (c = 0)) j0 (.need (rf p && (rf m && true && (rf ((↑m : Int)) && (rf p && true)))) (.need i0 (.need (okI 1000 (wr .i64 (c - 1)) && true) (.both (.all (Int) fun (y4 : Int) => (.imp (sgPoP T { s := wr .i64 x0, w := ⟨false, n, m, la, ep⟩, p := p, y := { f := true, par := 0, q := 0 } } y4) (.leaf (.normal, mkT 59 v0, [(0, some (.segs [⟨1, 1, [.int .i64 [y4]]⟩])), (1, some (.segs [m0])), (2, some u0), (3, some (sgL))])))) (.all (Int) fun (y4 : Int) => (.imp (sgPoE T { s := wr .i64 x0, w := ⟨false, n, m, la, ep⟩, p := p, y := { f := true, par := 0, q := 0 } } y4) (.leaf (.ret, mkT 59 [], [(0, some (.segs [m0])), (1, some (.segs [⟨1, 1, [.int .i64 [y4]]⟩])), (2, some u0), (3, some (sgLd))]))))))))) (.br (decide (c = 0)) j0 (.need (rf p && (rf m && true && (rf ((↑m : Int)) && (rf p && (rf w0 && true && (rf (List.getD (Pt.ns T) w0 0) && true) && (rf ((↑(List.getD (Pt.ns T) w0 0) : Int)) && true)))))) (.need i0 (.need (okI 1000 (wr .i64 (c - 1)) && okQ T p { f := false, par := 0 + Int.toNat p, q := List.getD (Pt.ns T) w0 0 }) (.both (.all (Int) fun (y4 : Int) => (.imp (sgPoP T { s := wr .i64 x0, w := ⟨false, n, m, la, ep⟩, p := p, y := { f := false, par := 0 + Int.toNat p, q := List.getD (Pt.ns T) w0 0 } } y4) (.leaf (.normal, mkT 59 v0, [(0, some (.segs [⟨1, 1, [.int .i64 [y4]]⟩])), (1, some (.segs [m0])), (2, some u0), (3, some (sgL))])))) (.all (Int) fun (y4 : Int) => (.imp (sgPoE T { s := wr .i64 x0, w := ⟨false, n, m, la, ep⟩, p := p, y := { f := false, par := 0 + Int.toNat p, q := List.getD (Pt.ns T) w0 0 } } y4) (.leaf (.ret, mkT 59 [], [(0, some (.segs [m0])), (1, some (.segs [⟨1, 1, [.int .i64 [y4]]⟩])), (2, some u0), (3, some (sgLd))])))))))))))) (.leaf (.exit 2, mkT 59 [], [(0, some (.segs [⟨1, 1, [.int .i64 [c]]⟩])), (1, some (.segs [m0])), (2, some u0), (3, some (sgL))])))) := by kernel_rfl
theorem sg_fnf (T : Pt) (n m : Nat) (la ep c : Int) : ((callT Try.prog (tabP T) (W (tabP T) noS noL) (sgT T) 4 33 [sgY, sgP] ⟨hp 0 (sgC ⟨false, n, m, la, ep⟩ c), 4, [], []⟩)).take 4 (.c (.n (.n (.n (.b (.a (.i (.c (.n (.n (.n (.b (.a (.i (.leaf [0, 1, 2, 3] 0))) (.a (.i (.leaf [0, 1, 2, 3] 0)))))))))) (.a (.i (.leaf [0, 1, 2, 3] 0)))))))) =
(let i0 : Seg := ⟨1, 1, [.int .i64 [0]]⟩
let j0 := (planB false n m la ep)
(.need (rf n && true && (rf ((↑n : Int)) && true)) (.need (okBl [.segs [⟨1, 1, [.int .i64 [c]]⟩], .segs [i0], planB false n m la ep, sgL] [.segs [⟨1, 1, [.int .i64 [c]]⟩], .segs [i0], planB false n m la ep, sgL]) (.need (okI 1000 c && okW T ⟨false, n, m, la, ep⟩) (.both (.all (Int) fun (y1 : Int) => (.imp (sgPrP T { s := c, w := ⟨false, n, m, la, ep⟩, p := 0, y := { f := true, par := 0, q := 0 } } y1) (.need (rf m && true && (rf ((↑m : Int)) && true)) (.need (okBl [.segs [⟨1, 1, [.int .i64 [y1]]⟩], .segs [i0], planB false n m la ep, sgL] [.segs [⟨1, 1, [.int .i64 [y1]]⟩], .segs [i0], planB false n m la ep, sgL]) (.need (okI 1000 y1 && okW T ⟨false, n, m, la, ep⟩) (.both (.all (Int) fun (y3 : Int) => (.imp (sgStP T { s := y1, w := ⟨false, n, m, la, ep⟩, p := 0, y := { f := true, par := 0, q := 0 } } y3) (.leaf (.ret, mkT 1 [], [(0, some (.segs [⟨1, 1, [.int .i64 [y3]]⟩])), (1, some (.segs [i0])), (2, some j0), (3, some (sgL))])))) (.all (Int) fun (y3 : Int) => (.imp (sgStE T { s := y1, w := ⟨false, n, m, la, ep⟩, p := 0, y := { f := true, par := 0, q := 0 } } y3) (.leaf (.ret, mkT 1 [], [(0, some (.segs [i0])), (1, some (.segs [⟨1, 1, [.int .i64 [y3]]⟩])), (2, some j0), (3, some (sgLd))])))))))))) (.all (Int) fun (y1 : Int) => (.imp (sgPrE T { s := c, w := ⟨false, n, m, la, ep⟩, p := 0, y := { f := true, par := 0, q := 0 } } y1) (.leaf (.ret, mkT 1 [], [(0, some (.segs [i0])), (1, some (.segs [⟨1, 1, [.int .i64 [y1]]⟩])), (2, some j0), (3, some (sgLd))]))))))))) := by kernel_rfl
theorem stagef (T : Pt) (n m : Nat) (la ep c : Int) : ((callT Try.prog (tabP T) (W (tabP T) noS noL) (sgTR T) 0 11 [Pw.v ⟨false, n, m, la, ep⟩, .int .i64 c] ⟨hp 0 [], 0, [], []⟩)).take 0 (.c (.n (.n (.b (.a (.i (.leaf [] 1))) (.a (.i (.leaf [] 1))))))) =
(.need (rf [c] && true && true && (rf n && true && true && true && (rf m && true && true && true && (rf [la] && true && (rf [ep] && true && true))) && true)) (.need (okI 1000 c && okW T ⟨false, n, m, la, ep⟩) (.both (.all (Int) fun (y1 : Int) => (.imp (sgAP T { s := c, w := { e := false, n := n, m := m, la := List.getD [la] 0 0, ep := List.getD [ep] 0 0 } } y1) (.leaf (.ret, mkT 1 [(0, .int .i64 (-1))], [])))) (.all (Int) fun (y1 : Int) => (.imp (sgAE T { s := c, w := { e := false, n := n, m := m, la := List.getD [la] 0 0, ep := List.getD [ep] 0 0 } } y1) (.leaf (.ret, mkT 1 [(0, .int .i64 y1)], []))))))) := by kernel_rfl
theorem sg_pot (T : Pt) (m : Nat) (par q : Nat) (la ep p j c : Int) : ((W (tabP T) noS noL 33 (false :: pPo) false (codeOf 33 (false :: pPo)) (mkT 59 (insPo sgY m p ⟨false, par, q⟩ j))).full ⟨hp 0 (sgC ⟨true, 0, m, la, ep⟩ c), 4, [], []⟩ leafS).take 4 (.x (.n (.n (.c (.x (.c (.leaf [0, 1, 2, 3] 234881025)) (.c (.leaf [0, 1, 2, 3] 15393397669921)))))) (.leaf [0, 1, 2, 3] 234881025)) =
(let i0 : List (Nat × AVal) := [(0, .yld 3), (25, .slice (.ro 1 0 0 0) m none), (26, .int .i64 (↑m : Int)), (27, .int .i64 p)]
(.br (decide (j < (↑q : Int))) (.need (decide (0 ≤ j) && decide (j < (↑q : Int))) (.need (decide (0 + Int.toNat j < List.length (Pt.po T par))) (.br (decide (c = 0)) (.leaf (.ret, mkT 59 i0, [(0, some (.segs [⟨1, 1, [.int .i64 [c]]⟩])), (1, some (.segs [⟨1, 1, [.int .i64 [wr .i64 (p + 1)]]⟩])), (2, some (planB true 0 m la ep)), (3, some (sgLd))])) (.leaf (.normal, mkT 59 [(0, .yld 3), (5, .int .i64 p), (25, .slice (.ro 1 0 0 0) m none), (26, .int .i64 (↑m : Int)), (27, .int .i64 p), (41, .slice (.ro 2 par 0 0) q none), (42, .int .i64 (↑q : Int)), (43, .int .i64 (wr .i64 (j + 1)))], [(0, some (.segs [⟨1, 1, [.int .i64 [wr .i64 (c - 1)]]⟩])), (1, some (.segs [⟨1, 1, [.int .i64 [0]]⟩])), (2, some (planB true 0 m la ep)), (3, some (sgL))]))))) (.leaf (.exit 4, mkT 59 i0, [(0, some (.segs [⟨1, 1, [.int .i64 [c]]⟩])), (1, some (.segs [⟨1, 1, [.int .i64 [0]]⟩])), (2, some (planB true 0 m la ep)), (3, some (sgL))])))) := by kernel_rfl
theorem sg_pet (T : Pt) (m : Nat) (la ep p c : Int) : ((W (tabP T) noS noL 33 (false :: pPo) false (codeOf 33 (false :: pPo)) (mkT 59 (insPo sgY m p ⟨true, 0, 0⟩ 0))).full ⟨hp 0 (sgC ⟨true, 0, m, la, ep⟩ c), 4, [], []⟩ leafS).take 4 (.c (.leaf [0, 1, 2, 3] 234881025)) =
(.leaf (.exit 4, mkT 59 [(0, .yld 3), (25, .slice (.ro 1 0 0 0) m none), (26, .int .i64 (↑m : Int)), (27, .int .i64 p)], [(0, some (.segs [⟨1, 1, [.int .i64 [c]]⟩])), (1, some (.segs [⟨1, 1, [.int .i64 [0]]⟩])), (2, some (planB true 0 m la ep)), (3, some (sgL))])) := by kernel_rfl
theorem sg_stt (T : Pt) (m : Nat) (la ep p c : Int) : ((execT (W (tabP T) noS noL) (sgTPo T) 4 400 33 (false :: pSt) (codeOf 33 (false :: pSt)) (mkT 59 (insSt sgY m p)) ⟨hp 0 (sgC ⟨true, 0, m, la, ep⟩ c), 4, [], []⟩ leafQ)).take 4 (.x (.n (.n (.x (.c (.x (.c (.leaf [0, 1, 2, 3] 0)) (.c (.c (.n (.n (.n (.b (.a (.i (.leaf [0, 1, 2, 3] 234881025))) (.a (.i (.leaf [0, 1, 2, 3] 0))))))))))) (.c (.x (.c (.leaf [0, 1, 2, 3] 0)) (.c (.c (.n (.n (.n (.b (.a (.i (.leaf [0, 1, 2, 3] 234881025))) (.a (.i (.leaf [0, 1, 2, 3] 0)))))))))))))) (.leaf [0, 1, 2, 3] 0)) =
(let m0 : Seg := ⟨1, 1, [.int .i64 [0]]⟩
let i0 := (okBl [.segs [⟨1, 1, [.int .i64 [wr .i64 (c - 1)]]⟩], .segs [m0], planB true 0 m la ep, sgL] [.segs [⟨1, 1, [.int .i64 [wr .i64 (c - 1)]]⟩], .segs [m0], planB true 0 m la ep, sgL])
let u0 := (planB true 0 m la ep)
let j0 : TreeQ State := (.leaf (.ret, mkT 59 [], [(0, some (.segs [⟨1, 1, [.int .i64 [c]]⟩])), (1, some (.segs [⟨1, 1, [.int .i64 [wr .i64 (p + 1)]]⟩])), (2, some u0), (3, some (sgLd))]))
let v0 : List (Nat × AVal) := [(0, .yld 3), (25, .slice (.ro 1 0 0 0) m none), (26, .int .i64 (↑m : Int)), (27, .int .i64 (wr .i64 (p + 1)))]
let w0 := (0 + Int.toNat p)
let x0 := (List.getD [c] 0 0 - 1)
(.br (decide (p < (↑m : Int))) (.need (decide (0 ≤ p) && decide (p < (↑m : Int))) (.need (decide (0 + Int.toNat p < List.length (Pt.st T))) (.br (List.getD (Pt.fs T) w0 true) (.br (decide (c = 0)) j0 (.need (rf p && (rf m && true && (rf ((↑m : Int)) && (rf p && true)))) (.need i0 (.need (okI 1000 (wr .i64 (c - 1)) && true) (.both (.all (Int) fun (y4 : Int) => (.imp (sgPoP T { s := wr .i64 x0, w := ⟨true, 0, m, la, ep⟩, p := p, y := { f := true, par := 0, q := 0 } } y4) (.leaf (.normal, mkT 59 v0, [(0, some (.segs [⟨1, 1, [.int .i64 [y4]]⟩])), (1, some (.segs [m0])), (2, some u0), (3, some (sgL))])))) (.all (Int) fun (y4 : Int) => (.imp (sgPoE T { s := wr .i64 x0, w := ⟨true, 0, m, la, ep⟩, p := p, y := { f := true, par := 0, q := 0 } } y4) (.leaf (.ret, mkT 59 [], [(0, some (.segs [m0])), (1, some (.segs [⟨1, 1, [.int .i64 [y4]]⟩])), (2, some u0), (3, some (sgLd))]))))))))) (.br (decide (c = 0)) j0 (.need (rf p && (rf m && true && (rf ((↑m : Int)) && (rf p && (rf w0 && true && (rf (List.getD (Pt.ns T) w0 0) && true) && (rf ((↑(List.getD (Pt.ns T) w0 0) : Int)) && true)))))) (.need i0 (.need (okI 1000 (wr .i64 (c - 1)) && okQ T p { f := false, par := 0 + Int.toNat p, q := List.getD (Pt.ns T) w0 0 }) (.both (.all (Int) fun (y4 : Int) => (.imp (sgPoP T { s := wr .i64 x0, w := ⟨true, 0, m, la, ep⟩, p := p, y := { f := false, par := 0 + Int.toNat p, q := List.getD (Pt.ns T) w0 0 } } y4) (.leaf (.normal, mkT 59 v0, [(0, some (.segs [⟨1, 1, [.int .i64 [y4]]⟩])), (1, some (.segs [m0])), (2, some u0), (3, some (sgL))])))) (.all (Int) fun (y4 : Int) => (.imp (sgPoE T { s := wr .i64 x0, w := ⟨true, 0, m, la, ep⟩, p := p, y := { f := false, par := 0 + Int.toNat p, q := List.getD (Pt.ns T) w0 0 } } y4) (.leaf (.ret, mkT 59 [], [(0, some (.segs [m0])), (1, some (.segs [⟨1, 1, [.int .i64 [y4]]⟩])), (2, some u0), (3, some (sgLd))])))))))))))) (.leaf (.exit 2, mkT 59 [], [(0, some (.segs [⟨1, 1, [.int .i64 [c]]⟩])), (1, some (.segs [m0])), (2, some u0), (3, some (sgL))])))) := by kernel_rfl
theorem sg_fnt (T : Pt) (m : Nat) (la ep c : Int) : ((callT Try.prog (tabP T) (W (tabP T) noS noL) (sgT T) 4 33 [sgY, sgP] ⟨hp 0 (sgC ⟨true, 0, m, la, ep⟩ c), 4, [], []⟩)).take 4 (.c (.c (.n (.n (.b (.a (.i (.c (.n (.n (.n (.b (.a (.i (.leaf [0, 1, 2, 3] 0))) (.a (.i (.leaf [0, 1, 2, 3] 0)))))))))) (.a (.i (.leaf [0, 1, 2, 3] 0)))))))) =
(let i0 : Seg := ⟨1, 1, [.int .i64 [0]]⟩
(.need (okBl [.segs [⟨1, 1, [.int .i64 [c]]⟩], .segs [i0], planB true 0 m la ep, sgL] [.segs [⟨1, 1, [.int .i64 [c]]⟩], .segs [i0], planB true 0 m la ep, sgL]) (.need (okI 1000 c && okW T ⟨true, 0, m, la, ep⟩) (.both (.all (Int) fun (y1 : Int) => (.imp (sgPrP T { s := c, w := ⟨true, 0, m, la, ep⟩, p := 0, y := { f := true, par := 0, q := 0 } } y1) (.need (rf m && true && (rf ((↑m : Int)) && true)) (.need (okBl [.segs [⟨1, 1, [.int .i64 [y1]]⟩], .segs [i0], planB true 0 m la ep, sgL] [.segs [⟨1, 1, [.int .i64 [y1]]⟩], .segs [i0], planB true 0 m la ep, sgL]) (.need (okI 1000 y1 && okW T ⟨true, 0, m, la, ep⟩) (.both (.all (Int) fun (y3 : Int) => (.imp (sgStP T { s := y1, w := ⟨true, 0, m, la, ep⟩, p := 0, y := { f := true, par := 0, q := 0 } } y3) (.leaf (.ret, mkT 1 [], [(0, some (.segs [⟨1, 1, [.int .i64 [y3]]⟩])), (1, some (.segs [i0])), (2, some (planB true 0 m la ep)), (3, some (sgL))])))) (.all (Int) fun (y3 : Int) => (.imp (sgStE T { s := y1, w := ⟨true, 0, m, la, ep⟩, p := 0, y := { f := true, par := 0, q := 0 } } y3) (.leaf (.ret, mkT 1 [], [(0, some (.segs [i0])), (1, some (.segs [⟨1, 1, [.int .i64 [y3]]⟩])), (2, some (planB true 0 m la ep)), (3, some (sgLd))])))))))))) (.all (Int) fun (y1 : Int) => (.imp (sgPrE T { s := c, w := ⟨true, 0, m, la, ep⟩, p := 0, y := { f := true, par := 0, q := 0 } } y1) (.leaf (.ret, mkT 1 [], [(0, some (.segs [i0])), (1, some (.segs [⟨1, 1, [.int .i64 [y1]]⟩])), (2, some (planB true 0 m la ep)), (3, some (sgLd))])))))))) := by kernel_rfl
theorem staget (T : Pt) (m : Nat) (la ep c : Int) : ((callT Try.prog (tabP T) (W (tabP T) noS noL) (sgTR T) 0 11 [Pw.v ⟨true, 0, m, la, ep⟩, .int .i64 c] ⟨hp 0 [], 0, [], []⟩)).take 0 (.c (.n (.n (.b (.a (.i (.leaf [] 1))) (.a (.i (.leaf [] 1))))))) =
(.need (rf [c] && true && true && (rf m && true && true && true && (rf [la] && true && (rf [ep] && true && true)) && true)) (.need (okI 1000 c && okW T ⟨true, 0, m, la, ep⟩) (.both (.all (Int) fun (y1 : Int) => (.imp (sgAP T { s := c, w := { e := true, n := 0, m := m, la := List.getD [la] 0 0, ep := List.getD [ep] 0 0 } } y1) (.leaf (.ret, mkT 1 [(0, .int .i64 (-1))], [])))) (.all (Int) fun (y1 : Int) => (.imp (sgAE T { s := c, w := { e := true, n := 0, m := m, la := List.getD [la] 0 0, ep := List.getD [ep] 0 0 } } y1) (.leaf (.ret, mkT 1 [(0, .int .i64 y1)], []))))))) := by kernel_rfl
end Go.Proofs.Ytompijagcjjamaa
