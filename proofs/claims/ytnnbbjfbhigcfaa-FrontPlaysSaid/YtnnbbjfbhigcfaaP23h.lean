/- front: FrontPlays: the acts, side by side. -/
import Derived.Test.YtnnbbjfbhigcfaaP23d
import Derived.Test.YtnnbbjfbhigcfaaP23g
import Derived.Test.YtnnbbjfbhigcfaaT23g
set_option linter.unusedSimpArgs false
namespace Go.Proofs.Ytnnbbjfbhigcfaa
open Ab

theorem okFr_of {x : Fr} (g1 : x.c.length = 16) (g2 : 1 ≤ x.n) (g3 : x.n ≤ 16) : okFr x = true := by
  rw [okFr, Bool.and_eq_true, Bool.and_eq_true]; exact ⟨decide_eq_true g1, decide_eq_true g2, decide_eq_true g3⟩
theorem okRr_of {r : Rr} (g1 : 1 ≤ r.l.length) (g2 : r.l.length ≤ 16) : okRr r = true := by
  rw [okRr, Bool.and_eq_true]; exact ⟨decide_eq_true g1, decide_eq_true g2⟩
theorem lsP_of {y : Ls} (g1 : y.n = y.m) (g2 : y.l = y.l') (g3 : y.l.length = y.n) (g4 : y.n ≤ 16) : lsP y = true := by
  rw [lsP, Bool.and_eq_true, Bool.and_eq_true, Bool.and_eq_true]; exact ⟨decide_eq_true g1, decide_eq_true g2, decide_eq_true g3, decide_eq_true g4⟩
theorem putI_take (c : List Int) (n : Nat) (e i a : Int) : (putI c e i a).take n = putI (c.take n) e i a := by
  unfold putI
  by_cases h : e = 0
  · rw [if_pos h, if_pos h, setI_take]
  · rw [if_neg h, if_neg h]
theorem okFr_mark {x : Fr} (h : okFr x = true) (I A : Int) : okFr (x.mark I A) = true ∧ (x.mark I A).r = x.r.mark I A := by
  obtain ⟨g1, g2, g3⟩ := okFr_facts h
  refine ⟨okFr_of ?_ g2 g3, ?_⟩
  · rw [Fr.mark, putI_len]; exact g1
  · show Rr.mk ((putI x.c (markE x.l I A) I A).take x.n.toNat) x.t = Rr.mk (putI (x.c.take x.n.toNat) (markE x.l I A) I A) x.t
    rw [putI_take]
theorem okFr_tell {T : Tb} {x : Fr} (h : okFr x = true) (s : Sl) : okFr (x.tell T s) = true := by
  obtain ⟨g1, g2, g3⟩ := okFr_facts h
  exact okFr_of g1 g2 g3
theorem okFr_r {x : Fr} (h : okFr x = true) : okRr x.r = true := by
  have := l_len h
  obtain ⟨g1, g2, g3⟩ := okFr_facts h
  exact okRr_of (show 1 ≤ x.l.length by omega) (show x.l.length ≤ 16 by omega)
theorem rmin_r {x : Fr} (h : okFr x = true) : rmin x.r = minF x := by
  obtain ⟨g1, g2, g3⟩ := okFr_facts h
  rw [rmin, minF]
  show leastL (x.l.getD 0 0) x.l = _
  rw [show x.l.getD 0 0 = x.c.getD 0 0 from getD_takeI (by omega)]
theorem rtellV_r {T : Tb} {x : Fr} (h : okFr x = true) (s : Sl) : rtellV T x.r s = tellV T x s := by
  simp only [rtellV, tellV, rtellA, tellA, rmin_r h]; rfl
theorem rtellB_r {T : Tb} {x : Fr} (h : okFr x = true) (s : Sl) : rtellB T x.r s = tellB T x s := by
  simp only [rtellB, tellB, rtellA, tellA, rmin_r h]; rfl
theorem lsP_r {x : Fr} (h : okFr x = true) : lsP ⟨x.n.toNat, x.l, x.r.l.length, x.r.l⟩ = true := by
  have h1 := l_len h
  obtain ⟨g1, g2, g3⟩ := okFr_facts h
  exact lsP_of (show x.n.toNat = x.l.length by omega) rfl (show x.l.length = x.n.toNat by omega) (show x.n.toNat ≤ 16 by omega)

section
variable {T : Tb} {ra : Nat → Nat → Nat × Nat} {base : Nat}
theorem w7 : ExecOK Try.prog (tabF T) ra base (W (tabF T) (S7 T) noL) := wS S7_ok

def plAt (V : AVal) (i : Int) : List (Nat × AVal) := [(0, .ptr (.own 0 0 0 0)), (1, .ptr (.own 1 0 0 0)), (2, V), (7, .int .i64 i)]

theorem plays_step (hT : T.Ok) {x : Fr} (hx : okFr x = true) {i : Nat} (hi : i ≤ T.w.length) (hi2 : i ≤ 80) :
    Takes Try.prog (tabF T) ra base 3 (codeOf 15 [false, false, true, false, true, true]) (mkT 143 (plAt (.slice (.ro 0 0 0 0) T.w.length none) i)) (hp 0 (plB ⟨.slice (.ro 0 0 0 0) T.w.length none, x, x.r⟩)) fun y =>
      (i < T.w.length ∧ i < 80 ∧ y = (.normal, mkT 143 (plAt (.slice (.ro 0 0 0 0) T.w.length none) ((i + 1 : Nat) : Int)), hp 0 (plB ⟨.slice (.ro 0 0 0 0) T.w.length none, stepX T i x, (stepX T i x).r⟩))) ∨
      (¬ (i < T.w.length ∧ i < 80) ∧ y = (.exit 0, mkT 143 [(0, .ptr (.own 0 0 0 0))], hp 0 (plB ⟨.slice (.ro 0 0 0 0) T.w.length none, x, x.r⟩))) := by
  have hE := tabF_plain T
  have hw : wr .i64 ((i : Int) + 1) = ((i + 1 : Nat) : Int) := by rw [wr_in ⟨by omega, by omega⟩]; omega
  refine takes_of_tree hE w7 (f := 15) (.inr (by kernel_rfl)) (hp_below _) (plays_round T T.w.length i x ⟨x.l, x.t⟩) ?_
  rw [toNat_nat]
  obtain ⟨I, hI⟩ : ∃ I, I = wr .i64 (T.i.getD i 0) := ⟨_, rfl⟩
  obtain ⟨A, hA⟩ : ∃ A, A = T.a.getD i 0 := ⟨_, rfl⟩
  obtain ⟨M, hM⟩ : ∃ M, M = (if 9 < ((T.ns.getD i 0 : Nat) : Int) then (9 : Int) else ((T.ns.getD i 0 : Nat) : Int)) := ⟨_, rfl⟩
  have hMb : 0 ≤ M ∧ M ≤ ((T.ns.getD i 0 : Nat) : Int) ∧ M ≤ 9 := by rw [hM]; split <;> omega
  have hM' : (if 9 < ((List.getD T.4 i 0 : Nat) : Int) then (9 : Int) else ((List.getD T.4 i 0 : Nat) : Int)) = M := hM.symm
  have hb2 : (decide (0 ≤ M) && decide (M ≤ ((List.getD T.4 i 0 : Nat) : Int))) = true := by rw [Bool.and_eq_true, decide_eq_true_eq, decide_eq_true_eq]; exact ⟨hMb.1, hMb.2.1⟩
  obtain ⟨m1, m2⟩ := okFr_mark hx I A
  obtain ⟨c', hc'⟩ : ∃ c', c' = putI x.c (markE x.l I A) I A := ⟨_, rfl⟩
  obtain ⟨l', hl'⟩ : ∃ l', l' = putI x.l (markE x.l I A) I A := ⟨_, rfl⟩
  have hX : x.mark I A = ⟨c', x.n, x.t⟩ := by rw [Fr.mark, ← hc']
  have hR : x.r.mark I A = ⟨l', x.t⟩ := by
    show Rr.mk (putI x.l (markE x.l I A) I A) x.t = _
    rw [← hl']
  rw [hX] at m1
  rw [hX, hR] at m2
  rw [← hI, ← hA, ← hc', ← hl']
  have hl2 : (⟨c', x.n, x.t⟩ : Fr).l = l' := congrArg Rr.l m2
  obtain ⟨o1, o2, o3⟩ := okFr_facts hx
  obtain ⟨p1, p2, p3⟩ := okFr_facts m1
  have k1 : okRr ⟨x.l, x.t⟩ = true := okFr_r hx
  have k2 : okRr ⟨l', x.t⟩ = true := by rw [← m2]; exact okFr_r m1
  have k3 : minF ⟨c', x.n, x.t⟩ = rmin ⟨l', x.t⟩ := by rw [← m2]; exact (rmin_r m1).symm
  have k4 : lsP ⟨x.n.toNat, l', l'.length, l'⟩ = true := by
    have := lsP_r m1
    rw [m2, hl2] at this; exact this
  have q1 : ∀ s, rtellV T ⟨x.l, x.t⟩ s = tellV T x s := rtellV_r hx
  have q2 : ∀ s, rtellB T ⟨x.l, x.t⟩ s = tellB T x s := rtellB_r hx
  have q3 : ∀ v, okRr ⟨x.l, v⟩ = true := fun v => k1
  have q4 : ∀ v, okFr ⟨x.c, x.n, v⟩ = true := fun v => okFr_of o1 o2 o3
  have q5 : ∀ v, minF ⟨x.c, x.n, v⟩ = minF x := fun v => rfl
  have q8 : ∀ v, rmin ⟨x.l, v⟩ = minF x := fun v => rmin_r hx
  have q6 : ∀ v, (⟨x.c, x.n, v⟩ : Fr).l = x.l := fun v => rfl
  have q7 : lsP ⟨x.n.toNat, x.l, x.l.length, x.l⟩ = true := lsP_r hx
  have e1 : decide (x.c.length = 16) = true := decide_eq_true o1
  have e2 : decide (1 ≤ x.n) = true := decide_eq_true o2
  have e3 : decide (x.n ≤ 16) = true := decide_eq_true o3
  have e4 : decide (c'.length = 16) = true := decide_eq_true p1
  have hS (hlt : i < T.w.length) : okS T (.ro i M.toNat) = true := by
    simp only [okS, Bool.and_eq_true, decide_eq_true_eq]
    rw [hT.h i hlt]; omega
  have s1 : kindI T i < 4 → stepX T i x = ⟨c', x.n, x.t⟩ := fun h => by rw [stepX, if_pos h, ← hI, ← hA, hX]
  have s2 : ¬ kindI T i < 4 → T.bs.getD i true = true → stepX T i x = ⟨x.c, x.n, tellV T x .nil⟩ := fun h hb => by rw [stepX, if_neg h, holdS, if_pos hb, Fr.tell]
  have s3 : ¬ kindI T i < 4 → T.bs.getD i true = false → stepX T i x = ⟨x.c, x.n, tellV T x (.ro i M.toNat)⟩ := fun h hb => by rw [stepX, if_neg h, holdS, hb, if_neg (by decide), holdM, ← hM, Fr.tell]
  refine ⟨fun a1 => ⟨fun a2 => ?_, fun a2 => .inr ⟨fun h => by have := of_decide_eq_false a2; omega, rfl⟩⟩, fun a1 => .inr ⟨fun h => by have := of_decide_eq_false a1; omega, rfl⟩⟩
  have a1 := of_decide_eq_true a1
  have a2 := of_decide_eq_true a2
  have hlt : i < T.w.length := by omega
  have hb1 : (decide (0 ≤ (i : Int)) && decide ((i : Int) < (T.w.length : Int))) = true := by rw [Bool.and_eq_true, decide_eq_true_eq, decide_eq_true_eq]; omega
  have d0 : decide (i < T.w.length) = true := decide_eq_true hlt
  simp only [Tree.holds, hM', decide_true, Bool.and_self, Bool.and_true, Bool.true_and, true_and, true_implies, hb1, hb2, d0, hx, m1, e1, e2, e3, e4, k1, k2, k3, k4, q1, q2, q3, q4, q5, q8, q6, q7, hl2, hS hlt, Bool.not_true, hw, Nat.zero_add, false_implies, reduceCtorEq]
  have fin : ∀ (y : State) (X : Fr), stepX T i x = X → y = (.normal, mkT 143 (plAt (.slice (.ro 0 0 0 0) T.w.length none) ((i + 1 : Nat) : Int)), hp 0 (plB ⟨.slice (.ro 0 0 0 0) T.w.length none, X, X.r⟩)) →
      (i < T.w.length ∧ i < 80 ∧ y = (.normal, mkT 143 (plAt (.slice (.ro 0 0 0 0) T.w.length none) ((i + 1 : Nat) : Int)), hp 0 (plB ⟨.slice (.ro 0 0 0 0) T.w.length none, stepX T i x, (stepX T i x).r⟩))) ∨
      (¬ (i < T.w.length ∧ i < 80) ∧ y = (.exit 0, mkT 143 [(0, .ptr (.own 0 0 0 0))], hp 0 (plB ⟨.slice (.ro 0 0 0 0) T.w.length none, x, x.r⟩))) := fun y X e h => .inl ⟨hlt, by omega, by rw [e]; exact h⟩
  refine ⟨fun b1 => fin _ _ (s1 (of_decide_eq_true b1)) (by rw [m2]; rfl), fun b1 => ⟨fun b2 => ⟨b2, ?_⟩, fun b2 => ⟨b2, ?_⟩⟩⟩
  · exact fin _ _ (s2 (of_decide_eq_false b1) b2) rfl
  · exact fin _ _ (s3 (of_decide_eq_false b1) b2) rfl
theorem runX_ok {x : Fr} (hx : okFr x = true) : ∀ i, okFr (runX T x i) = true
  | 0 => hx
  | i + 1 => by
    rw [runX, stepX]
    split
    · exact (okFr_mark (runX_ok hx i) _ _).1
    · exact okFr_tell (runX_ok hx i) _

theorem plOk_facts {y : Pl} (h : plOk T y = true) : okV T y.V = true ∧ okFr y.x = true ∧ y.r = y.x.r := by
  rw [plOk, Bool.and_eq_true, Bool.and_eq_true, Bool.and_eq_true] at h
  obtain ⟨h1, h2, h3, h4⟩ := h
  refine ⟨h1, h2, ?_⟩
  obtain ⟨V, x, r⟩ := y
  obtain ⟨l, t⟩ := r
  exact congr (congrArg Rr.mk (of_decide_eq_true h3)) (of_decide_eq_true h4)
theorem plOk_of {y : Pl} (h1 : okV T y.V = true) (h2 : okFr y.x = true) (h3 : y.r = y.x.r) : plOk T y = true := by
  rw [plOk, Bool.and_eq_true, Bool.and_eq_true, Bool.and_eq_true]
  exact ⟨h1, h2, decide_eq_true (by rw [h3]; rfl), decide_eq_true (by rw [h3]; rfl)⟩

theorem L15_ok (hT : T.Ok) : LoopsOK Try.prog (tabF T) ra base (L15 T) := by
  have hE := tabF_plain T
  refine sumLG_deal hE noL_ok rfl (c := codeOf 15 [false, false, true, false, true, true]) (by kernel_rfl) (fun _ => rfl) fun y hy => ?_
  obtain ⟨V, x, r⟩ := y
  obtain ⟨h1, h2, h3⟩ := plOk_facts hy
  simp only at h1 h2 h3
  subst h3
  rcases okV_cases h1 with rfl | rfl
  · refine takes_loop (fun j ts h => j = 1 ∧ ts = mkT 143 (plAt .nils 0) ∧ h = hp 0 (plB ⟨.nils, x, x.r⟩)) (fun ts h => by rintro ⟨h, _⟩; omega) (fun j ts h' => ?_) (j := 1) ⟨rfl, rfl, rfl⟩
    rintro ⟨_, rfl, rfl⟩
    refine takes_of_tree hE w7 (f := 15) (.inr (by kernel_rfl)) (hp_below _) (plays_round0 T 0 x x.r) ?_
    exact ⟨rfl, rfl⟩
  · refine takes_loop (fun j ts h => ∃ i : Nat, i ≤ T.w.length ∧ i ≤ 80 ∧ j = 80 - i + 1 ∧ ts = mkT 143 (plAt (.slice (.ro 0 0 0 0) T.w.length none) i) ∧ h = hp 0 (plB ⟨.slice (.ro 0 0 0 0) T.w.length none, runX T x i, (runX T x i).r⟩)) (fun ts h => by rintro ⟨i, _, _, h, _⟩; omega) (fun j ts h' => ?_) (j := 81) ⟨0, by omega, by omega, rfl, rfl, rfl⟩
    rintro ⟨i, k1, k2, k3, rfl, rfl⟩
    refine (plays_step hT (runX_ok h2 i) k1 k2).mono ?_
    rintro z (⟨g1, g2, rfl⟩ | ⟨g1, rfl⟩)
    · exact ⟨i + 1, by omega, by omega, by omega, rfl, rfl⟩
    · have : i = min T.w.length 80 := by omega
      subst this; rfl

theorem S8_ok (hT : T.Ok) : SumsOK Try.prog (tabF T) ra base (S8 T) := by
  have hE := tabF_plain T
  refine sumG_deal hE S7_ok ⟨_, Try.func15, by kernel_rfl⟩ fun y hy => ?_
  cases y with
  | two y =>
    obtain ⟨V, x, r⟩ := y
    obtain ⟨h1, h2, h3⟩ := plOk_facts (y := ⟨V, x, r⟩) hy
    simp only at h1 h2 h3
    subst h3
    rcases okV_cases h1 with rfl | rfl
    · refine (gives_of_tree hE (W_ok S7_ok (L15_ok hT)) S7_ok (hp_below _) (plays_two0 T x x.r) ?_).2
      simp only [Tree.holds, decide_true, Bool.and_self, Bool.and_true, Bool.true_and, true_and]
      exact ⟨hy, _, rfl, rfl, rfl⟩
    · refine (gives_of_tree hE (W_ok S7_ok (L15_ok hT)) S7_ok (hp_below _) (plays_two T T.w.length x x.r) ?_).2
      simp only [Tree.holds, decide_true, Bool.and_self, Bool.and_true, Bool.true_and, true_and]
      exact ⟨hy, _, rfl, rfl, rfl⟩
  | non V =>
    have h1 : okV T V = true := hy
    rcases okV_cases h1 with rfl | rfl
    · exact (gives_of_tree hE (W_ok S7_ok (L15_ok hT)) S7_ok (hp_below _) (plays_non0 T) ⟨_, rfl, rfl, rfl⟩).2
    · exact (gives_of_tree hE (W_ok S7_ok (L15_ok hT)) S7_ok (hp_below _) (plays_non T T.w.length) ⟨_, rfl, rfl, rfl⟩).2
end

end Go.Proofs.Ytnnbbjfbhigcfaa
