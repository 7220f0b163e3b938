/- Parts of the walk: the law's loops, by shape (any shape); the piece of the law that lists what stands behind a stage; what stands behind a stage is listed: the piece keeps its contract. -/
import Derived.Test.YtompijagcjjamaaG08
import Derived.Test.YtompijagcjjamaaG09

set_option linter.unusedSimpArgs false
set_option linter.unusedVariables false
namespace Go.Proofs.Ytompijagcjjamaa
open Ab
theorem okMb_of {h : Sh} {x : Mb} (hx : okMb h x = true) : okNote x.l x.note ∧ x.note.length ≤ 100 ∧ x.l.k.length ≤ 100 ∧ x.v.length = x.l.k.length ∧ (∀ c ∈ x.v, 0 ≤ c ∧ c ≤ 10) ∧ (h.nn = true → x.note = []) ∧ wfOk h x.y = true := by
  unfold okMb at hx; exact @of_decide_eq_true _ (_) hx
theorem okMc_of {h : Sh} {x : Mb} (hx : okMc h x = true) : okIn h x.y x.l x.v := by unfold okMc at hx; exact @of_decide_eq_true _ (_) hx
theorem okMd_of {h : Sh} {x : Md} (hx : okMd h x = true) : wfOk h x.c = true ∧ wfOk h x.y = true ∧ (x.l.k.length : Int) = h.N x.c.pl ∧ x.l.k.length ≤ 100 := by unfold okMd at hx; exact @of_decide_eq_true _ (_) hx
theorem nil_of {s : Cs} (hw : s.wf = true) (h : s.un = []) : s = Cs.nil := by
  have := (Cs.wf_of hw).1
  rw [h] at this; exact this
theorem norm_pc {h : Sh} {y : Pc} (hw : wfOk h y = true) : (h.e = true → y.pre = Cs.nil) ∧ (h.f = true → y.q1 = Cs.nil) ∧ (h.u2 = true → y.q2 = Cs.nil) ∧ (h.t = false → y.o2 = z4) := by
  simp only [wfOk, soundB, Bool.and_eq_true] at hw
  obtain ⟨hw, hn, _⟩ := hw
  simp only [Pc.wf, Bool.and_eq_true] at hw
  obtain ⟨n1, n2, n3, n4⟩ := normB_iff.1 hn
  exact ⟨fun h => nil_of hw.1 (n1 h), fun h => nil_of hw.2.1 (n2 h), fun h => nil_of hw.2.2 (n3 h), n4⟩
theorem sgOk_of {h : Sh} {y : Pc} (hw : wfOk h y = true) {i : Int} (h1 : 0 ≤ i) (h2 : i ≤ 1000) : sgOkc h ⟨y, i⟩ = true := by
  simp only [wfOk, Bool.and_eq_true] at hw
  simp only [sgOkc, stgD, Bool.and_eq_true, okI_iff]
  exact ⟨hw.1, hw.2, h1, h2⟩
theorem Sh.N_pos (h : Sh) (p : Pl) : 1 ≤ h.N p := by
  obtain ⟨e, f, t, u⟩ := h
  cases t <;> simp only [Sh.N, cond_true, cond_false] <;> omega
theorem un_len {s : Cs} (hw : s.wf = true) : s.un.length = s.k.length := (Cs.wf_of hw).2
theorem wf3 {h : Sh} {y : Pc} (hw : wfOk h y = true) : y.pre.wf = true ∧ y.q1.wf = true ∧ y.q2.wf = true := by
  simp only [wfOk, Pc.wf, Bool.and_eq_true] at hw
  exact hw.1
theorem alike_N {h : Sh} {cc c : Pc} (hc : wfOk h cc = true) (ha : alike h cc c) : Sh.N h c.pl = Sh.N h cc.pl := by
  obtain ⟨hw, h1, h2, h3, _⟩ := ha
  obtain ⟨a1, a2, a3⟩ := wf3 hw
  obtain ⟨b1, b2, b3⟩ := wf3 hc
  have e1 : c.pl.pre.length = cc.pl.pre.length := by show c.pre.un.length = cc.pre.un.length; rw [un_len a1, un_len b1, h1]
  have e2 : c.pl.q1.length = cc.pl.q1.length := by show c.q1.un.length = cc.q1.un.length; rw [un_len a2, un_len b2, h2]
  have e3 : c.pl.q2.length = cc.pl.q2.length := by show c.q2.un.length = cc.q2.un.length; rw [un_len a3, un_len b3, h3]
  simp only [Sh.N, e1, e2, e3]
theorem puOk_of {h : Sh} {c : Pc} (hw : wfOk h c = true) {i : Int} (h0 : 0 ≤ i) (h1 : i < h.N c.pl) : puOk h ⟨c, i⟩ = true := by
  simp only [wfOk, soundB, Bool.and_eq_true] at hw
  simp only [puOk, puD, Bool.and_eq_true, decide_eq_true_eq]
  exact ⟨hw.1, hw.2.1, hw.2.2, h0, h1⟩
theorem put_lens {h : Sh} {p : Pl} {n : Int} : (putP h p n).pre.length = p.pre.length ∧ (putP h p n).q1.length = p.q1.length ∧ (putP h p n).q2.length = p.q2.length ∧ (putP h p n).la = p.la ∧ (putP h p n).ep = p.ep := by
  unfold putP
  repeat' split
  all_goals simp
theorem put_sound {h : Sh} {p : Pl} {n : Int} (hs : soundB h p = true) (h1 : n < h.N p) : soundB h (putP h p n) = true := by
  obtain ⟨l1, l2, l3, _, _⟩ := put_lens (h := h) (p := p) (n := n)
  simp only [soundB, lens4, Bool.and_eq_true, decide_eq_true_eq, l1, l2, l3] at hs ⊢
  refine ⟨?_, hs.2⟩
  obtain ⟨n1, n2, n3, n4⟩ := normB_iff.1 hs.1
  refine normB_iff.2 ⟨fun he => List.length_eq_zero_iff.1 (by rw [l1, n1 he]; rfl), fun he => List.length_eq_zero_iff.1 (by rw [l2, n2 he]; rfl), fun he => List.length_eq_zero_iff.1 (by rw [l3, n3 he]; rfl), fun ht => ?_⟩
  have h1' : n < (p.pre.length : Int) + 1 + p.q1.length := by
    simp only [Sh.N, ht, cond_false] at h1; omega
  unfold putP
  repeat' split
  all_goals first | exact n4 ht | omega
theorem alike_put {h : Sh} {cc c : Pc} {n : Int} (ha : alike h cc c) (h0 : 0 ≤ n) (h1 : n < h.N c.pl) : alike h cc (putC h c n) := by
  obtain ⟨hw, a1, a2, a3, a4, a5⟩ := ha
  obtain ⟨w1, w2, w3⟩ := wf3 hw
  obtain ⟨l1, l2, l3, l4, l5⟩ := put_lens (h := h) (p := c.pl) (n := n)
  have hs : soundB h c.pl = true := by simp only [wfOk, Bool.and_eq_true] at hw; exact hw.2
  refine ⟨?_, ?_, ?_, ?_, ?_, ?_⟩
  · simp only [wfOk, Bool.and_eq_true]
    exact ⟨Pc.of_wf _, by rw [putC, Pc.of_pl]; exact put_sound hs h1⟩
  · show (k4 (putP h c.pl n).pre).length = _
    rw [k4_length, l1, ← a1, ← un_len w1]; rfl
  · show (k4 (putP h c.pl n).q1).length = _
    rw [k4_length, l2, ← a2, ← un_len w2]; rfl
  · show (k4 (putP h c.pl n).q2).length = _
    rw [k4_length, l3, ← a3, ← un_len w3]; rfl
  · exact l4.trans a4
  · exact l5.trans a5
def fstBad (p : Pl) : Prop := match p.pre with
  | [] => p.o1 = bad
  | x :: _ => x = bad
theorem fb_iff {c : Pc} : firstBad c ↔ fstBad c.pl := Iff.rfl
theorem first_zero {h : Sh} {c : Pc} (hw : wfOk h c = true) : firstBad (putC h c ((0 : Nat) : Int)) := by
  rw [fb_iff, putC, Pc.of_pl]
  obtain ⟨pre, o1, q1, o2, q2, la, ep⟩ := c.pl
  cases pre with
  | nil => rw [putP_o1 (by simp only [List.length_nil])]; rfl
  | cons x l => rw [putP_pre (by simp only [List.length_cons]; omega)]; rfl
theorem first_keep {h : Sh} {c : Pc} {n : Int} (hw : wfOk h c = true) (hf : firstBad c) : firstBad (putC h c n) := by
  rw [fb_iff] at hf ⊢
  rw [putC, Pc.of_pl]
  generalize c.pl = p at hf
  obtain ⟨pre, o1, q1, o2, q2, la, ep⟩ := p
  unfold putP
  cases pre with
  | nil =>
    repeat' split
    all_goals first | exact hf | rfl
  | cons x l =>
    repeat' split
    all_goals first | exact hf | skip
    simp only [fstBad]
    cases hn : n.toNat with
    | zero => rfl
    | succ m => exact hf
theorem tz : (∀ n : Nat, (n : Int).toNat = n) ∧ (∀ n : Nat, 0 + n = n) ∧ (∀ b, (b && true) = b) ∧ (∀ b, (true && b) = b) ∧ (∀ p : Prop, (True ∧ p) = p) ∧ (∀ p : Prop, (p ∧ True) = p) ∧ (∀ (p : Prop) [Decidable p], (decide p = true) = p) ∧ (∀ (p : Prop) [Decidable p], (decide p = false) = ¬ p) ∧ (∀ p : Prop, (True → p) = p) ∧ (∀ p : Prop, (False → p) = True) ∧ ((true = false) = False) ∧ ((false = true) = False) ∧ ((¬ True) = False) ∧ ((¬ False) = True) ∧ (decide True = true) ∧ (decide False = false) ∧ ((!true) = false) ∧ ((!false) = true) ∧ (∀ a b, ((a && b) = true) = (a = true ∧ b = true)) ∧ (∀ l, eV l = true) ∧ (∀ x, same4 x x = true) := by
  refine ⟨Int.toNat_natCast, Nat.zero_add, Bool.and_true, Bool.true_and, true_and, and_true, fun p _ => by simp, fun p _ => by simp, fun p => by simp, fun p => by simp, by simp, by simp, by simp, by simp, rfl, rfl, rfl, rfl, fun a b => by simp, eV_eq, same4_self⟩
theorem inL_of {i n : Nat} (h : i < n) : inL (i : Int) n = true := by
  have h1 : (0 : Int) ≤ i := by omega
  have h2 : (i : Int) < n := by omega
  simp [inL, h1, h2]
theorem nL_of {i n : Nat} (h : i < n) : nL (i : Int) n = true := by
  simp only [nL, Int.toNat_natCast, Nat.zero_add, h, decide_true]
theorem wr1' {i n : Nat} (h : i < n) (hn : n ≤ 1000) : wr .i64 ((i : Int) + 1) = ((i + 1 : Nat) : Int) := by
  rw [wr_in ⟨by omega, by omega⟩]; omega
theorem nrm_eq {h : Sh} {y : Pc} (hw : wfOk h y = true) : y.nrm h = y := by
  obtain ⟨n1, n2, n3, n4⟩ := norm_pc hw
  obtain ⟨e, f, t, u⟩ := h
  obtain ⟨pre, o1, q1, o2, q2, la, ep⟩ := y
  simp only at n1 n2 n3 n4
  simp only [Pc.nrm, Pc.mk.injEq, true_and, and_true]
  refine ⟨?_, ?_, ?_, ?_⟩
  · cases e
    · rfl
    · exact (n1 rfl).symm
  · cases f
    · rfl
    · exact (n2 rfl).symm
  · cases t
    · exact (n4 rfl).symm
    · rfl
  · cases hu : Sh.u2 ⟨e, f, t, u⟩
    · rfl
    · exact (n3 hu).symm
section
variable {E : Nat → Nat → Seg} {ra : Nat → Nat → Nat × Nat} {base : Nat} {h : Sh}
theorem te_ok (hE : Plain E) (x : Me) (hx : (eD h).pre x = true) : Takes Try.prog E ra base 0 (.loop (codeOf 3 (false :: qE))) (mkT 230 ((eD h).ins x)) (hp 0 ((eD h).blks x)) fun y => PostL 230 x y (eD h).alts := by
  obtain ⟨l, c⟩ := x
  simp only [eD, okMe, Bool.and_eq_true, decide_eq_true_eq] at hx
  obtain ⟨_, hl⟩ := hx
  refine takes_loop (fun j ts hh => ∃ i : Nat, i ≤ l.k.length ∧ i + j = l.k.length + 1 ∧ ts = meTs l i ∧ hh = hp 0 ((eD h).blks ⟨l, c⟩)) ?_ ?_ (j := l.k.length + 1) ⟨0, Nat.zero_le _, Nat.zero_add _, rfl, rfl⟩
  · rintro ts hh ⟨i, h1, h2, _⟩; omega
  · rintro j ts hh ⟨i, hi0, hj, rfl, rfl⟩
    refine takes_of_tree hE (W_ok noS_ok noL_ok) (.inr (by kernel_rfl)) (hp_below _) (me_tree h E l c i) ?_
    by_cases hi : i < l.k.length
    · have c1 : (i : Int) < (l.k.length : Int) := by omega
      simp only [Tree.holds, rf_eq, c1, inL_of hi, nL_of hi, wr1' hi (Nat.le_trans hl (by decide)), tz]
      exact ⟨i + 1, by omega, by omega, rfl, rfl⟩
    · have c1 : ¬ (i : Int) < (l.k.length : Int) := by omega
      simp only [Tree.holds, rf_eq, c1, tz]
      exact ⟨(), trivial, rfl⟩
theorem tc_ok (hE : Plain E) (hS : SumsOK Try.prog E ra base (SM h)) (x : Mb) (hx : (cD h).pre x = true) : Takes Try.prog E ra base 0 (.loop (codeOf 3 (false :: qC))) (mkT 230 ((cD h).ins x)) (hp 0 ((cD h).blks x)) fun y => PostL 230 x y (cD h).alts := by
  obtain ⟨y, l, v, note⟩ := x
  obtain ⟨hv, hll, hmono, hw⟩ := okMc_of hx
  simp only at hv hll hmono hw
  have hvl : v.length = l.k.length := by rw [hv, List.length_replicate]
  have hB := eB_eq (ok_plB h 0 y)
  have hsg : ∀ i : Int, 0 ≤ i → i ≤ 1000 → sgOkc h ⟨y, i⟩ = true := fun i h1 h2 => sgOk_of hw h1 h2
  refine takes_loop (fun j ts hh => ∃ i : Nat, i ≤ l.k.length ∧ i + j = l.k.length + 1 ∧ ts = mcTs l v.length i ∧ hh = hp 0 ((cD h).blks ⟨y, l, v, []⟩)) ?_ ?_ (j := l.k.length + 1) ⟨0, Nat.zero_le _, Nat.zero_add _, rfl, rfl⟩
  · rintro ts hh ⟨i, h1, h2, _⟩; omega
  · rintro j ts hh ⟨i, hi0, hj, rfl, rfl⟩
    refine takes_of_tree hE (W_ok hS noL_ok) (.inr (by kernel_rfl)) (hp_below _) (mc_tree h E y l v i) ?_
    rw [nrm_eq hw]
    by_cases hi : i < l.k.length
    · have hi2 : i < v.length := by omega
      have c1 : (i : Int) < (v.length : Int) := by omega
      have hv1 : v.getD i 0 = 1 := by rw [hv, List.getD_eq_getElem?_getD, List.getElem?_replicate, if_pos hi]; rfl
      have hw1 : wr .i64 ((i : Int) - 1) = (i : Int) - 1 := wr_in ⟨by omega, by omega⟩
      have s1 := hsg i (by omega) (by omega)
      by_cases hz : 1 ≤ i
      · have c2 : (0 : Int) < (i : Int) := by omega
        have s2 := hsg ((i : Int) - 1) (by omega) (by omega)
        have hm := Int.not_lt.2 (hmono i hz hi)
        simp only [Tree.holds, rf_eq, mcX, mcN, c1, c2, inL_of hi2, nL_of hi2, hw1, wr1' hi2 (by omega), hv1, s1, s2, hB, hm, tz]
        exact ⟨i + 1, by omega, by omega, rfl, rfl⟩
      · have c2 : ¬ (0 : Int) < (i : Int) := by omega
        simp only [Tree.holds, rf_eq, mcX, mcN, c1, c2, inL_of hi2, nL_of hi2, wr1' hi2 (by omega), hv1, tz]
        exact ⟨i + 1, by omega, by omega, rfl, rfl⟩
    · have c1 : ¬ (i : Int) < (v.length : Int) := by omega
      simp only [Tree.holds, rf_eq, mcX, c1, tz]
      exact ⟨(), trivial, rfl⟩
theorem td_ok (hE : Plain E) (hS : SumsOK Try.prog E ra base (SM h)) (x : Md) (hx : (dD h).pre x = true) : Takes Try.prog E ra base 0 (.loop (codeOf 3 (false :: qD))) (mkT 230 ((dD h).ins x)) (hp 0 ((dD h).blks x)) fun y => PostL 230 x y (dD h).alts := by
  obtain ⟨y, l, cc⟩ := x
  obtain ⟨hwc, hwy, hN, hll⟩ := okMd_of hx
  simp only at hwc hwy hN hll
  have hN1 : 1 ≤ l.k.length := by have := Sh.N_pos h cc.pl; omega
  refine takes_loop (fun j ts hh => ∃ (i : Nat) (c : Pc), i ≤ l.k.length ∧ i + j = l.k.length + 1 ∧ alike h cc c ∧ (1 ≤ i → firstBad c) ∧ ts = mdTs l i ∧ hh = hp 0 ((dD h).blks ⟨y, l, c⟩)) ?_ ?_ (j := l.k.length + 1) ⟨0, cc, Nat.zero_le _, Nat.zero_add _, ⟨hwc, rfl, rfl, rfl, rfl, rfl⟩, fun h => absurd h (by omega), rfl, rfl⟩
  · rintro ts hh ⟨i, c, h1, h2, _⟩; omega
  · rintro j ts hh ⟨i, c, hi0, hj, hal, hfb, rfl, rfl⟩
    have hNc : Sh.N h c.pl = Sh.N h cc.pl := alike_N hwc hal
    refine takes_of_tree hE (W_ok hS noL_ok) (.inr (by kernel_rfl)) (hp_below _) (md_tree h E y l c i) ?_
    rw [nrm_eq hal.1]
    by_cases hi : i < l.k.length
    · have c1 : (i : Int) < (l.k.length : Int) := by omega
      have hp := puOk_of (i := i) hal.1 (by omega) (by rw [hNc]; omega)
      have hal' := alike_put (n := i) hal (by omega) (by rw [hNc]; omega)
      have hfb' : firstBad (putC h c i) := by
        rcases Nat.eq_zero_or_pos i with h0 | h0
        · subst h0; exact first_zero hal.1
        · exact first_keep hal.1 (hfb h0)
      have hB := eB_eq (ok_box (h.ids 1) h 1 c)
      simp only [Tree.holds, rf_eq, puC, c1, inL_of hi, nL_of hi, wr1' hi (Nat.le_trans hll (by decide)), hp, hB, tz]
      exact ⟨i + 1, _, by omega, by omega, hal', fun _ => hfb', rfl, rfl⟩
    · have c1 : ¬ (i : Int) < (l.k.length : Int) := by omega
      simp only [Tree.holds, rf_eq, c1, tz]
      exact ⟨_, ⟨hal, hfb (by omega)⟩, rfl⟩
theorem tb_ok (hE : Plain E) (x : Mb) (hx : (bD h).pre x = true) : Takes Try.prog E ra base 0 (.loop (codeOf 3 (false :: qB))) (mkT 230 ((bD h).ins x)) (hp 0 ((bD h).blks x)) fun y => PostL 230 x y (bD h).alts := by
  obtain ⟨y, l, v, note⟩ := x
  obtain ⟨hok, hnl, hll, hvl, hvb, hnn, _⟩ := okMb_of hx
  simp only at hok hnl hll hvl hvb hnn
  refine takes_loop (fun j ts hh => ∃ (i : Nat) (v' : List Int), i ≤ note.length ∧ i + j = note.length + 1 ∧ v'.length = v.length ∧ (∀ c ∈ v', 0 ≤ c ∧ c ≤ 10 + (i : Int)) ∧ incs v' (note.drop i) = incs v note ∧ ts = mbTs h l v.length note.length i ∧ hh = hp 0 (mbBs h y l v.length v' note)) ?_ ?_ (j := note.length + 1) ⟨0, v, Nat.zero_le _, Nat.zero_add _, rfl, (fun c hc => ⟨(hvb c hc).1, by have := (hvb c hc).2; omega⟩), rfl, rfl, rfl⟩
  · rintro ts hh ⟨i, v', h1, h2, _⟩; omega
  · rintro j ts hh ⟨i, v', hi0, hj, hvl', hvb', hinc, rfl, rfl⟩
    rw [← hvl']
    cases hnb : h.nn
    · refine takes_of_tree hE (W_ok (SO_ok hE) noL_ok) (.inr (by kernel_rfl)) (hp_below _) (mb_tree h hnb E y l v' note i) ?_
      by_cases hi : i < note.length
      · have c1 : (i : Int) < (note.length : Int) := by omega
        obtain ⟨m1, m2, m3⟩ := hok (note.getD i 0) (by rw [getD_at hi]; exact List.getElem_mem hi)
        obtain ⟨c, hc⟩ : ∃ c : Nat, note.getD i 0 = (c : Int) := ⟨_, (Int.toNat_of_nonneg m1).symm⟩
        rw [hc] at m1 m2 m3
        rw [Int.toNat_natCast] at m3
        have d1 : ¬ ((c : Int) < 0) := by omega
        have d2 : ¬ ((l.k.length : Int) ≤ (c : Int)) := by omega
        have d4 : c < l.k.length := by omega
        have d5 : c < v'.length := by omega
        have hb := hvb' (v'.getD c 0) (by rw [getD_at d5]; exact List.getElem_mem d5)
        have hwc : wr .i64 (v'.getD c 0 + 1) = v'.getD c 0 + 1 := wr_in ⟨by omega, by omega⟩
        have hd : note.drop i = (c : Int) :: note.drop (i + 1) := by
          rw [List.drop_eq_getElem_cons hi, ← hc, getD_at hi]
        simp only [Tree.holds, rf_eq, nd1, c1, inL_of hi, nL_of hi, wr1' hi (by omega), hc, d1, d2, inL_of d4, nL_of d4, inL_of d5, nL_of d5, hwc, m3, tz]
        refine ⟨i + 1, v'.set c (v'.getD c 0 + 1), by omega, by omega, by rw [List.length_set], fun z hz => ?_, ?_, rfl, rfl⟩
        · rcases List.mem_or_eq_of_mem_set hz with hz | rfl
          · have := hvb' z hz; omega
          · omega
        · rw [← hinc, hd]
          simp only [incs, Int.toNat_natCast]
      · have c1 : ¬ (i : Int) < (note.length : Int) := by omega
        simp only [Tree.holds, rf_eq, mbX, c1, tz]
        have hd : note.drop i = [] := List.drop_of_length_le (by omega)
        rw [hd] at hinc
        have hinc : v' = incs v note := hinc
        subst hinc
        exact ⟨(), trivial, by rw [hvl']; rfl⟩
    · have hz := hnn hnb
      subst hz
      have hi : i = 0 := by simpa using hi0
      subst hi
      refine takes_of_tree hE (W_ok (SO_ok hE) noL_ok) (.inr (by kernel_rfl)) (hp_below _) (mb_none h hnb E y l v') ?_
      have hinc : v' = v := hinc
      subst hinc
      exact ⟨(), trivial, rfl⟩
theorem MT_ok (hE : Plain E) (hS : SumsOK Try.prog E ra base (SM h)) : ToldsOK Try.prog E ra base 0 (MT h) :=
  sumT_ok (sumT_ok (sumT_ok (sumT_ok noT_ok rfl (toldR_ok (c := .loop (codeOf 3 (false :: qE))) (by kernel_rfl) (te_ok hE))) rfl (toldR_ok (c := .loop (codeOf 3 (false :: qD))) (by kernel_rfl) (td_ok hE hS))) rfl (toldR_ok (c := .loop (codeOf 3 (false :: qC))) (by kernel_rfl) (tc_ok hE hS))) rfl (toldR_ok (c := .loop (codeOf 3 (false :: qB))) (by kernel_rfl) (tb_ok hE))
end
end Go.Proofs.Ytompijagcjjamaa

namespace Go.Proofs.Ytompijagcjjamaa
open Ab
def nV (n : Bool) (i k : Nat) : AVal := match n with
  | true => .nils
  | false => .slice (.own i 0 0 1) k none
def nB (n : Bool) (l : List Int) : List Blk := match n with
  | true => []
  | false => [intsB l]
def bdN (n : Bool) : Nat := cond n 3 4
structure Mn where
  b : Bool
  m : Mb
def zN (b : Bool) : Int := match b with
  | true => 2
  | false => 1
def Sh.ni (h : Sh) (b : Bool) : Bool := cond b (cond h.e h.f false) h.e
def Sh.pn (h : Sh) (b : Bool) : Bool := cond b h.u2 h.f
def Sh.no (h : Sh) (b : Bool) : Bool := cond (h.ni b) (h.pn b) false
def ntOf (h : Sh) (b : Bool) (x : Mb) : List Int := cond (h.pn b) x.note (cond (h.ni b) (poNc h x.y (zN b)) (x.note ++ poNc h x.y (zN b)))
def nTs (x : Mb) (v : AVal) (z : Int) : List (Nat × AVal) := [(3, .ptr (.own 0 0 0 0)), (6, .slice (.own 1 0 0 4) x.l.k.length none), (7, .slice (.own 2 0 0 1) x.v.length (some x.v.length)), (8, v), (9, .int .i64 z)]
def nBs (h : Sh) (n : Bool) (x : Mb) (note : List Int) : List Blk := x.y.boxI (h.ids (bdN n)) h :: x.l.blk :: intsB x.v :: (nB n note ++ plB h (bdN n) x.y)
def okN (h : Sh) (x : Mn) : Bool := wfOk h x.m.y && (decide (x.m.note.length ≤ 1000) && (cond (h.pn x.b) (poOkN h ⟨x.m.y, zN x.b⟩) (poOkO h ⟨x.m.y, zN x.b⟩) && (decide ((poNc h x.m.y (zN x.b)).length ≤ 1000) && cond (h.pn x.b) true (decide (1 ≤ (poNc h x.m.y (zN x.b)).length)))))
def ntD (h : Sh) : RDeal Mn where
  ins x := nTs x.m (nV (h.ni x.b) 3 x.m.note.length) (zN x.b)
  blks x := nBs h (h.ni x.b) x.m x.m.note
  pre x := okN h x
  alts := [⟨Unit, .normal, fun _ _ => True, fun x _ => nTs x.m (nV (h.no x.b) 3 (ntOf h x.b x.m).length) (zN x.b), fun x _ => nBs h (h.no x.b) x.m (ntOf h x.b x.m)⟩]
def qN : List Bool := [true, true, true, false, false, true, false, false, true, false, true, true, true, true, true, true, true, true]
def ntO (h : Sh) (us : List AVal) (Bs : List Blk) : Option Mn := match us, Bs with
  | [_, _, _, _, .int _ z], X :: L :: V :: R => match boxO X, opsO L, intsO V, takeI (h.ni (!decide (z = 1))) R with
    | some (la, ep), some l, some v, some (note, R) => match pcFrom h la ep R with
      | some (y, _) => some ⟨!decide (z = 1), ⟨y, l, v, note⟩⟩
      | none => none
    | _, _, _, _ => none
  | _, _ => none
noncomputable def MM (h : Sh) : Tolds := sumT 3 qN (toldR 230 (ntD h) [3, 6, 7, 8, 9] (ntO h)) (MT h)
end Go.Proofs.Ytompijagcjjamaa

namespace Go.Proofs.Ytompijagcjjamaa
open Ab
def nK (h : Sh) (b : Bool) (y : Pc) (t : Tree State) : Tree State := .need (eB (plB h 0 y)) (.need (eV [y.v h, .int .i64 (zN b)]) (.need (cond (h.pn b) (poOkN h ⟨y, zN b⟩) (poOkO h ⟨y, zN b⟩)) t))
def nLs (h : Sh) (b : Bool) (x : Mb) (n : Nat) (note : List Int) : Tree State := .leaf (.normal, mkT 230 (nTs x (.slice (.own 3 0 0 1) n none) (zN b)), hp 0 (x.y.boxI (h.ids 4) h :: x.l.blk :: intsB x.v :: .segs [⟨n, 1, [.int .i64 note]⟩] :: plB h 4 x.y))
def nNo (h : Sh) (b : Bool) (x : Mb) : Tree State := .leaf (.normal, mkT 230 (nTs x .nils (zN b)), hp 0 (x.y.boxI (h.ids 3) h :: x.l.blk :: intsB x.v :: plB h 3 x.y))
def nC (n : Nat) : Bool := decide (n * 8 ≤ 35184372088832)
def nS (n : Nat) : Bool := decide (0 + n ≤ n)
noncomputable def nT (h : Sh) (E : Nat → Nat → Seg) (b : Bool) (m : Mb) (p : Pat) : Tree State := ((W E (SM h) noL 3 qN false (codeOf 3 qN) (mkT 230 ((ntD h).ins ⟨b, m⟩))).full ⟨hp 0 ((ntD h).blks ⟨b, m⟩), ((ntD h).blks ⟨b, m⟩).length, [], []⟩ leafS).take 0 p
theorem nt_ll (h : Sh) (b : Bool) (hn : h.ni b = false) (hp' : h.pn b = false) (E : Nat → Nat → Seg) (m : Mb) : nT h E b m (.c (.n (.n (.n (.n (.n (.n (.c (.leaf (0 :: 1 :: 2 :: (4 + h.n + 1) :: rg 4 h.n) 968))))))))) =
  nK h b (m.y.nrm h) (.need (nC (m.note.length + (poNc h (m.y.nrm h) (zN b)).length)) (.need (nS m.note.length) (.need (nS (poNc h (m.y.nrm h) (zN b)).length)
    (nLs h b m (m.note.length + (poNc h (m.y.nrm h) (zN b)).length) (List.take m.note.length (List.drop 0 m.note) ++ List.take (poNc h (m.y.nrm h) (zN b)).length (List.drop 0 (poNc h (m.y.nrm h) (zN b)))))))) := by
  obtain ⟨e, f, t, u⟩ := h
  cases e <;> cases f <;> cases t <;> cases u <;> cases b <;> first | (exact absurd hn (by decide)) | (exact absurd hp' (by decide)) | kernel_rfl
theorem nt_ln (h : Sh) (b : Bool) (hn : h.ni b = false) (hp' : h.pn b = true) (E : Nat → Nat → Seg) (m : Mb) : nT h E b m (.c (.n (.n (.n (.n (.n (.c (.leaf (0 :: 1 :: 2 :: (4 + h.n) :: rg 4 h.n) 968)))))))) =
  nK h b (m.y.nrm h) (.need (nC m.note.length) (.need (nS m.note.length) (nLs h b m m.note.length (List.take m.note.length (List.drop 0 m.note) ++ [])))) := by
  obtain ⟨e, f, t, u⟩ := h
  cases e <;> cases f <;> cases t <;> cases u <;> cases b <;> first | (exact absurd hn (by decide)) | (exact absurd hp' (by decide)) | kernel_rfl
theorem nt_nl (h : Sh) (b : Bool) (hn : h.ni b = true) (hp' : h.pn b = false) (E : Nat → Nat → Seg) (m : Mb) : nT h E b m (.c (.n (.n (.n (.x (.leaf (rg 0 (3 + h.n)) 968) (.n (.n (.leaf (0 :: 1 :: 2 :: (3 + h.n + 1) :: rg 3 h.n) 968)))))))) =
  nK h b (m.y.nrm h) (.br (Nat.beq (poNc h (m.y.nrm h) (zN b)).length 0) (nNo h b m) (.need (nC (poNc h (m.y.nrm h) (zN b)).length) (.need (nS (poNc h (m.y.nrm h) (zN b)).length)
    (nLs h b m (poNc h (m.y.nrm h) (zN b)).length (List.take (poNc h (m.y.nrm h) (zN b)).length (List.drop 0 (poNc h (m.y.nrm h) (zN b)))))))) := by
  obtain ⟨e, f, t, u⟩ := h
  cases e <;> cases f <;> cases t <;> cases u <;> cases b <;> first | (exact absurd hn (by decide)) | (exact absurd hp' (by decide)) | kernel_rfl
theorem nt_nn (h : Sh) (b : Bool) (hn : h.ni b = true) (hp' : h.pn b = true) (E : Nat → Nat → Seg) (m : Mb) : nT h E b m (.c (.n (.n (.n (.c (.leaf (rg 0 (3 + h.n)) 968)))))) = nK h b (m.y.nrm h) (nNo h b m) := by
  obtain ⟨e, f, t, u⟩ := h
  cases e <;> cases f <;> cases t <;> cases u <;> cases b <;> first | (exact absurd hn (by decide)) | (exact absurd hp' (by decide)) | kernel_rfl
section
variable {E : Nat → Nat → Seg} {ra : Nat → Nat → Nat × Nat} {base : Nat} {h : Sh}
theorem beq0 {n : Nat} (h : ¬ n = 0) : Nat.beq n 0 = false := by cases n with | zero => exact absurd rfl h | succ _ => rfl
theorem nC_of {n : Nat} (h : n ≤ 2000) : nC n = true := decide_eq_true (by omega)
theorem nS_of (n : Nat) : nS n = true := decide_eq_true (by omega)
theorem nt_ok (hE : Plain E) (hS : SumsOK Try.prog E ra base (SM h)) (x : Mn) (hx : (ntD h).pre x = true) : Takes Try.prog E ra base 0 (codeOf 3 qN) (mkT 230 ((ntD h).ins x)) (hp 0 ((ntD h).blks x)) fun y => PostL 230 x y (ntD h).alts := by
  obtain ⟨b, y, l, v, note⟩ := x
  simp only [ntD, okN, Bool.and_eq_true, decide_eq_true_eq] at hx
  obtain ⟨hw, hnl, hpo, hpl, hp1⟩ := hx
  have hB := eB_eq (ok_plB h 0 y)
  have q1 := nC_of (n := note.length) (by omega)
  have q2 := nC_of (n := (poNc h y (zN b)).length) (by omega)
  have q3 := nC_of (n := note.length + (poNc h y (zN b)).length) (by omega)
  cases hni : h.ni b <;> cases hpn : h.pn b
  · refine takes_of_tree hE (W_ok hS noL_ok) (.inr (by kernel_rfl)) (hp_below _) (nt_ll h b hni hpn E ⟨y, l, v, note⟩) ?_
    rw [hpn] at hpo
    simp only [nrm_eq hw, nK, nLs, hpn, cond_false, Tree.holds, hB, eV_eq, hpo, q3, nS_of, true_and, List.drop_zero, List.take_length]
    refine ⟨(), trivial, ?_⟩
    simp only [ntD, nBs, ntOf, Sh.no, hni, hpn, cond_false, nV, nB, List.length_append, bdN, intsB]; rfl
  · refine takes_of_tree hE (W_ok hS noL_ok) (.inr (by kernel_rfl)) (hp_below _) (nt_ln h b hni hpn E ⟨y, l, v, note⟩) ?_
    rw [hpn] at hpo
    simp only [nrm_eq hw, nK, nLs, hpn, cond_true, Tree.holds, hB, eV_eq, hpo, q1, nS_of, true_and, List.drop_zero, List.take_length, List.append_nil]
    refine ⟨(), trivial, ?_⟩
    simp only [ntD, nBs, ntOf, Sh.no, hni, hpn, cond_false, cond_true, nV, nB, bdN, intsB]; rfl
  · refine takes_of_tree hE (W_ok hS noL_ok) (.inr (by kernel_rfl)) (hp_below _) (nt_nl h b hni hpn E ⟨y, l, v, note⟩) ?_
    rw [hpn] at hpo hp1
    have hp1 := of_decide_eq_true hp1
    have q4 := beq0 (n := (poNc h y (zN b)).length) (by omega)
    simp only [nrm_eq hw, nK, nLs, hpn, cond_false, Tree.holds, hB, eV_eq, hpo, q2, q4, nS_of, true_and, List.drop_zero, List.take_length, Bool.false_eq_true, false_implies, true_implies]
    refine ⟨(), trivial, ?_⟩
    simp only [ntD, nBs, ntOf, Sh.no, hni, hpn, cond_false, cond_true, nV, nB, bdN, intsB]; rfl
  · refine takes_of_tree hE (W_ok hS noL_ok) (.inr (by kernel_rfl)) (hp_below _) (nt_nn h b hni hpn E ⟨y, l, v, note⟩) ?_
    rw [hpn] at hpo
    simp only [nrm_eq hw, nK, nNo, hpn, cond_true, Tree.holds, hB, eV_eq, hpo, true_and]
    refine ⟨(), trivial, ?_⟩
    simp only [ntD, nBs, ntOf, Sh.no, hni, hpn, cond_true, nV, nB, bdN]; rfl
theorem MM_ok (hE : Plain E) (hS : SumsOK Try.prog E ra base (SM h)) : ToldsOK Try.prog E ra base 0 (MM h) :=
  sumT_ok (MT_ok hE hS) rfl (toldR_ok (c := codeOf 3 qN) (by kernel_rfl) (nt_ok hE hS))
end
end Go.Proofs.Ytompijagcjjamaa
