/- net: NetKeeps: the loop of the acts; the whole. -/
import Derived.Test.YtohdkgdaccoohaaP19d
import Derived.Test.YtohdkgdaccoohaaT19b
set_option linter.unusedSimpArgs false
set_option linter.unusedVariables false
namespace Go.Proofs.Ytohdkgdaccoohaa
open Ab

section
variable {ra : Nat → Nat → Nat × Nat} {base : Nat} {T : Tb}

theorem Sw.ok_cases {x : Sw} (h : x.ok T = true) : ∃ (y : Nt) (th : List Int) (s d k : Int) (i : Nat), x = ⟨.slice (.ro 0 0 0 0) T.w.length none, y, th, s, d, (i : Nat), k⟩ ∧ i < T.w.length ∧ i < 200 ∧ Iv y th s d i := by
  obtain ⟨V, y, th, s, d, i, k⟩ := x
  simp only [Sw.ok, Bool.and_eq_true, decide_eq_true_eq] at h
  obtain ⟨h1, h2, h3, h4, h5⟩ := h
  obtain ⟨m, rfl⟩ : ∃ m : Nat, i = m := ⟨i.toNat, by omega⟩
  rw [Int.toNat_natCast] at h5
  rcases okV_cases h1 with ⟨_, h0⟩ | rfl
  · omega
  · exact ⟨y, th, s, d, k, m, rfl, by omega, by omega, iv_iff.1 h5⟩

theorem TAc_ok (T : Tb) : ToldsOK Try.prog (tabN T) ra base 0 (TAc T) := by
  refine sumT_ok (sumT_ok (sumT_ok (sumT_ok noT_ok rfl (toldR_ok (c := codeOf 4 aT) (by kernel_rfl) fun x hx => ?_)) rfl (toldR_ok (c := codeOf 4 aL) (by kernel_rfl) fun x hx => ?_)) rfl (toldR_ok (c := codeOf 4 aD) (by kernel_rfl) fun x hx => ?_)) rfl (toldR_ok (c := codeOf 4 aS) (by kernel_rfl) fun x hx => ?_)
  · obtain ⟨y, th, s, d, k, i, rfl, _, h2, h3⟩ := Sw.ok_cases hx
    exact (twice_act h3 h2 k).mono fun w hw => hw
  · obtain ⟨y, th, s, d, k, i, rfl, _, h2, h3⟩ := Sw.ok_cases hx
    exact (lose_act h3 h2 k).mono fun w hw => hw
  · obtain ⟨y, th, s, d, k, i, rfl, _, h2, h3⟩ := Sw.ok_cases hx
    exact (del_act h3 h2 k).mono fun w hw => hw
  · obtain ⟨y, th, s, d, k, i, rfl, _, h2, h3⟩ := Sw.ok_cases hx
    exact (send_act h3 h2 k).mono fun w hw => hw

theorem sw_takes (x : Sw) (hx : (swD T).pre x = true) : Takes Try.prog (tabN T) ra base 0 (codeOf 4 pA) (mkT 173 ((swD T).ins x)) (hp 0 ((swD T).blks x)) fun w => PostL 173 x w (swD T).alts := by
  have hE := tabN_plain T
  have hS := S1_ok (ra := ra) (base := base) hE
  have hx : x.ok T = true := hx
  obtain ⟨y, th, s, d, k, i, rfl, h1, h2, h3⟩ := Sw.ok_cases hx
  have hk : ∀ k', Sw.ok ⟨.slice (.ro 0 0 0 0) T.w.length none, y, th, s, d, (i : Nat), k'⟩ T = true := fun _ => hx
  refine takes_of_treeQ hE (wE hE hS) (TAc_ok T) (f := 4) (.inr (by kernel_rfl)) (hp_below _) (sw_t T T.w.length y th s d i k) ?_
  have leaf : ∀ a : Af, keptQ y (i : Nat) a → ∀ w : State, w = (.normal, mkT 173 ((⟨.slice (.ro 0 0 0 0) T.w.length none, a.y, a.th, a.s, a.d⟩ : Kp).at (i : Nat)), hp 0 ((⟨.slice (.ro 0 0 0 0) T.w.length none, a.y, a.th, a.s, a.d⟩ : Kp).blks)) → PostL 173 (⟨.slice (.ro 0 0 0 0) T.w.length none, y, th, s, d, (i : Nat), k⟩ : Sw) w (swD T).alts := fun a ha w hw => ⟨a, ha, hw⟩
  have c1 : decide (0 ≤ (i : Int)) = true := decide_eq_true (by omega)
  have c2 : decide ((i : Int) < (T.w.length : Nat)) = true := decide_eq_true (by omega)
  have c3 : decide (0 + Int.toNat (i : Int) < T.w.length) = true := decide_eq_true (by omega)
  simp only [TreeQ.holds, hk, c1, c2, c3, sameCap, decide_true, Bool.and_self, Bool.and_true, Bool.true_and, true_and]
  have leaf' : ∀ a : Af, keptQ ⟨y.n, y.xs, y.s, y.l⟩ (i : Nat) a → _ := fun a ha => leaf a ha _ rfl
  exact ⟨fun c => ⟨c, leaf'⟩, fun _ => ⟨fun c => ⟨c, leaf'⟩, fun _ => ⟨fun _ => leaf', fun _ => ⟨fun c => ⟨c, leaf'⟩, fun _ => ⟨fun _ => leaf', fun _ => ⟨fun _ => leaf', fun _ => leaf'⟩⟩⟩⟩⟩⟩

theorem TA_ok (T : Tb) : ToldsOK Try.prog (tabN T) ra base 0 (TA T) := sumT_ok noT_ok rfl (toldR_ok (c := codeOf 4 pA) (by kernel_rfl) sw_takes)

/-- the state between the rounds -/
def AtK (T : Tb) (i : Nat) (ts : Tmps) (h : Log) : Prop := ∃ (y : Nt) (th : List Int) (s d : Int), i ≤ 200 ∧ Iv y th s d i ∧ ts = mkT 173 ((⟨.slice (.ro 0 0 0 0) T.w.length none, y, th, s, d⟩ : Kp).at (i : Nat)) ∧ h = hp 0 (Kp.blks ⟨.slice (.ro 0 0 0 0) T.w.length none, y, th, s, d⟩)

theorem kp_step {y : Nt} {th : List Int} {s d : Int} {i : Nat} (hi : i ≤ 200) (h : Iv y th s d i) :
    Takes Try.prog (tabN T) ra base 0 (codeOf 4 (false :: pK)) (mkT 173 ((⟨.slice (.ro 0 0 0 0) T.w.length none, y, th, s, d⟩ : Kp).at (i : Nat))) (hp 0 (Kp.blks ⟨.slice (.ro 0 0 0 0) T.w.length none, y, th, s, d⟩)) fun w => (w.1 = .normal ∧ i < 200 ∧ AtK T (i + 1) w.2.1 w.2.2) ∨ w = (.exit 0, mkT 173 [], hp 0 []) := by
  have hE := tabN_plain T
  have hS := S1_ok (ra := ra) (base := base) hE
  refine takes_of_treeQ hE (wE hE hS) (TA_ok T) (f := 4) (.inr (by kernel_rfl)) (hp_below _) (kp_round T T.w.length y th s d i) ?_
  have okc : ∀ {y' : Nt} {th' : List Int} {s' d' : Int} {i' : Nat}, Iv y' th' s' d' i' → i' ≤ 1000 → (decide (y'.n ≤ y'.xs.length) && (decide (y'.xs.length ≤ 64) && (decide (4 ≤ y'.xs.length) && (decide (0 ≤ y'.s) && (decide (y'.s ≤ 100000) && (decide (0 ≤ y'.l) && decide (y'.l ≤ 100000))))))) = true := fun h hi => by
    obtain ⟨o1, o2, o3, o4, o5, o6, o7⟩ := okNt_iff.1 (h.ok hi)
    simp only [Bool.and_eq_true, decide_eq_true_eq]; exact ⟨o1, o2, o3, o4, o5, o6, o7⟩
  have b1 := okc h (by omega)
  have hn := h.n_le
  have hl := h.len64
  have c0 : decide (wr .i64 ((y.n : Int) + 2) ≠ 0) = true := decide_eq_true (by rw [one_in ⟨by omega, by omega⟩]; omega)
  have c4 : decide (0 ≤ (i : Int)) = true := decide_eq_true (by omega)
  have hv : okV T (.slice (.ro 0 0 0 0) T.w.length none) = true := decide_eq_true rfl
  have hI : invB y th s d (Int.toNat (i : Int)) = true := iv_iff.2 (by rw [Int.toNat_natCast]; exact h)
  simp only [TreeQ.holds]
  refine ⟨fun hl1 => ⟨fun hl2 => ?_, fun _ => .inr rfl⟩, fun _ => .inr rfl⟩
  have k1 := of_decide_eq_true hl1
  have k2 := of_decide_eq_true hl2
  have hi2 : i < 200 := by omega
  have hi3 : i + 1 ≤ 200 := hi2
  have c3 : decide (0 + Int.toNat (i : Int) < T.w.length) = true := decide_eq_true (by omega)
  simp only [b1, c0, c3, c4, hl1, hl2, hv, hI, sameCap, decide_true, Bool.and_self, Bool.and_true, Bool.true_and, true_and]
  rintro ⟨y', th', s', d'⟩ hg
  rw [Int.toNat_natCast, Bool.and_eq_true] at hg
  obtain ⟨g1, g2⟩ := hg
  have g := iv_iff.1 g1
  have b2 := okc g (by omega)
  have d0 : 0 ≤ d' := g.d0
  have l0 : 0 ≤ y'.l := g.l0
  have li : y'.l ≤ (i + 1 : Nat) := g.li
  have si : s' ≤ (i + 1 : Nat) := g.si
  have sm : s' = d' + y'.l + (y'.n : Int) := g.sm
  have nl : y'.n ≤ y'.xs.length := g.n_le
  have l64 : y'.xs.length ≤ 64 := g.len64
  have e1 : wr .i64 (d' + y'.l) = d' + y'.l := one_in ⟨by omega, by omega⟩
  have e2 : wr .i64 (d' + y'.l + (y'.n : Int)) = d' + y'.l + (y'.n : Int) := one_in ⟨by omega, by omega⟩
  have e3 : wr .i64 ((i : Int) + 1) = ((i + 1 : Nat) : Int) := by rw [one_in ⟨by omega, by omega⟩]; rfl
  have q1 : decide ((y'.xs.length : Int) < (y'.n : Nat)) = false := decide_eq_false (by omega)
  have q2 : decide (y'.s = s') = true := decide_eq_true g.ys
  have q3 : decide (y'.s = d' + y'.l + (y'.n : Int)) = true := decide_eq_true (by rw [g.ys]; exact sm)
  simp only [b2, e1, e2, e3, q1, q2, q3, decide_true, Bool.and_self, Bool.and_true, Bool.true_and, true_and, Bool.not_true, Bool.false_eq_true, false_implies, forall_const]
  have hI' : AtK T (i + 1) (mkT 173 ((⟨.slice (.ro 0 0 0 0) T.w.length none, y', th', s', d'⟩ : Kp).at ((i + 1 : Nat) : Int))) (hp 0 (Kp.blks ⟨.slice (.ro 0 0 0 0) T.w.length none, y', th', s', d'⟩)) := ⟨y', th', s', d', hi3, g, rfl, rfl⟩
  exact .inl ⟨hi2, hI'⟩

theorem kp_start {x : Kp} (hx : (kpD T).pre x = true) : okV T x.V = true ∧ Iv x.y x.th x.s x.d 0 := by
  obtain ⟨V, ⟨n, xs, ys, yl⟩, th, s, d⟩ := x
  simp only [kpD, Bool.and_eq_true, decide_eq_true_eq] at hx
  obtain ⟨h1, h2, h3, h4, h5, h6, h7, h8⟩ := hx
  subst h2; subst h4; subst h5; subst h6; subst h7; subst h8
  obtain ⟨o1, o2, o3, o4, o5, o6, o7⟩ := okNt_iff.1 h3
  refine ⟨h1, ⟨o1, o3, o2, Int.le_refl _, Int.le_refl _, Int.le_refl _, Int.le_refl _, rfl, rfl, List.length_replicate, fun t ht => ?_, fun b hb => ?_⟩⟩
  · simp [Nt.live] at ht
  · have e : cntB ⟨0, xs, 0, 0⟩ b = 0 := by simp [cntB, Nt.live]
    have e2 : (List.replicate 201 (0 : Int)).getD b 0 = 0 := by
      rw [List.getD_eq_getElem?_getD, List.getElem?_replicate, if_pos hb]; rfl
    rw [e]
    simp only [e2]
    exact ⟨by decide, by decide⟩

theorem kp_takes (x : Kp) (hx : (kpD T).pre x = true) : Takes Try.prog (tabN T) ra base 0 (.loop (codeOf 4 (false :: pK))) (mkT 173 ((kpD T).ins x)) (hp 0 ((kpD T).blks x)) fun z => PostL 173 x z (kpD T).alts := by
  have hE := tabN_plain T
  have hS := S1_ok (ra := ra) (base := base) hE
  obtain ⟨hV, h⟩ := kp_start hx
  obtain ⟨V, y, th, s, d⟩ := x
  simp only at hV h
  rcases okV_cases hV with ⟨rfl, _⟩ | rfl
  · refine takes_loop (fun j ts h => j = 1 ∧ ts = mkT 173 (Kp.at ⟨.nils, y, th, s, d⟩ 0) ∧ h = hp 0 (Kp.blks ⟨.nils, y, th, s, d⟩)) (fun ts h => by rintro ⟨h, _⟩; omega) (fun j ts h' => ?_) (j := 1) ⟨rfl, rfl, rfl⟩
    rintro ⟨_, rfl, rfl⟩
    refine takes_of_tree hE (wE hE hS) (f := 4) (.inr (by kernel_rfl)) (hp_below _) (kp_round0 T y th s d) ?_
    exact ⟨(), trivial, rfl⟩
  · refine takes_loop (fun j ts h => ∃ i, j = 200 - i + 1 ∧ AtK T i ts h) (fun ts h => by rintro ⟨i, h, _⟩; omega) (fun j ts h' => ?_) (j := 201) ⟨0, rfl, y, th, s, d, Nat.zero_le _, h, rfl, rfl⟩
    rintro ⟨i, k1, y', th', s', d', k2, k3, rfl, rfl⟩
    refine (kp_step k2 k3).mono ?_
    rintro ⟨q, ts', h''⟩ (⟨rfl, g1, g2⟩ | g)
    · exact ⟨i + 1, by omega, g2⟩
    · rw [g]
      exact ⟨(), trivial, rfl⟩

theorem TK_ok (T : Tb) : ToldsOK Try.prog (tabN T) ra base 0 (TK T) := sumT_ok noT_ok rfl (toldR_ok (c := .loop (codeOf 4 (false :: pK))) (by kernel_rfl) kp_takes)

theorem keeps_gives {V : AVal} (hV : okV T V = true) {c : Int} (hc : 0 ≤ c ∧ c < 256) :
    Gives Try.prog (tabN T) ra base 0 4 [.int .u8 c, V] (hp 0 []) fun v _ => v = .bool true := by
  have hE := tabN_plain T
  have hS := S1_ok (ra := ra) (base := base) hE
  have hT := TK_ok (ra := ra) (base := base) T
  have e0 : Int.tmod c 61 = c % 61 := Int.tmod_eq_emod_of_nonneg hc.1
  have e1 : wr .i64 (Int.tmod c 61) = c % 61 := by rw [e0]; exact one_in ⟨by omega, by omega⟩
  have e2 : wr .i64 (4 + c % 61) = 4 + c % 61 := one_in ⟨by omega, by omega⟩
  have hn : newOk (4 + c % 61) = true := newOk_iff.2 ⟨by omega, by omega⟩
  have q1 : decide (4 + c % 61 = ((Int.toNat (4 + c % 61) : Nat) : Int)) = true := decide_eq_true (by omega)
  have q2 : okNt ⟨0, List.replicate (Int.toNat (4 + c % 61)) noTx, 0, 0⟩ = true := by
    rw [okNt_iff]
    simp only [List.length_replicate]
    exact ⟨by omega, by omega, by omega, by decide, by decide, by decide, by decide⟩
  rcases okV_cases hV with ⟨rfl, h0⟩ | rfl
  · refine gives_of_treeQ hE (wE hE hS) hT (hp_below _) (kp_call0 T c) ?_
    rw [e1, e2]
    simp only [TreeQ.holds, hn, hV, q1, q2, sameCap, List.length_replicate, decide_true, Bool.and_self, Bool.and_true, Bool.true_and, true_and, Bool.not_true, Bool.not_false, Bool.false_eq_true, false_implies, forall_const, and_true, reduceCtorEq, Bool.true_eq_false]
    exact ⟨_, rfl, rfl⟩
  · refine gives_of_treeQ hE (wE hE hS) hT (hp_below _) (kp_call T T.w.length c) ?_
    rw [e1, e2]
    simp only [TreeQ.holds, hn, hV, q1, q2, sameCap, List.length_replicate, decide_true, Bool.and_self, Bool.and_true, Bool.true_and, true_and, Bool.not_true, Bool.not_false, Bool.false_eq_true, false_implies, forall_const, and_true, reduceCtorEq, Bool.true_eq_false]
    exact ⟨_, rfl, rfl⟩
end
end Go.Proofs.Ytohdkgdaccoohaa
