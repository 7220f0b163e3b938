/- source: SourceLate: the loop keeps its contract. -/
import Derived.Test.YtbpcfjhnkjobaaaP14h
set_option linter.unusedSimpArgs false
namespace Go.Proofs.Ytbpcfjhnkjobaaa
open Ab

section
variable {ra : Nat → Nat → Nat × Nat} {base : Nat} {T : Tb}

theorem till {i : Nat} (h : i ≤ 2000) : wr .i64 ((i : Int) + 1) = ((i + 1 : Nat) : Int) := by rw [wr_in ⟨by omega, by omega⟩]; omega

/-- what a round of both looks at -/
structure LateD (y z : Sr) : Prop where
  d0 : decide ((next y).f < (next z).f) = false
  d1 : decide ((next y).pl = (next z).pl) = true
  d2 : decide ((next y).over = (next z).over) = true
  d3 : decide ((nextR y).key = (nextR z).key) = true
  d4 : decide ((nextR y).side = (nextR z).side) = true
  d5 : decide ((nextR y).err = (nextR z).err) = true
  d6 : decide (decide (nextK y = 3) = decide (nextK z = 3)) = true
  d7 : decide (decide (nextK y = 4) = decide (nextK z = 4)) = true

theorem late_d {y z : Sr} (h : LateS y z) : LateD y z := by
  refine ⟨decide_eq_false ?_, decide_eq_true h.rel.pl.symm, decide_eq_true h.rel.over.symm, decide_eq_true h.key, decide_eq_true h.side, decide_eq_true h.err, decide_eq_true ?_, decide_eq_true ?_⟩
  · have := h.rel.f
    generalize (next y).f = a at this ⊢
    generalize (next z).f = b at this ⊢
    omega
  · rw [decide_eq_decide, h.mark]
  · rw [decide_eq_decide, h.ends]

theorem late_cases {y z : Sr} (h : LateS y z) : (decide (nextK y = 1) = true ∧ decide (nextK z = 1) = true ∧ decide (nextK z = 2) = false ∧ nextR y = nextR z) ∨ (decide (nextK y = 1) = false ∧ decide (nextK z = 2) = true ∧ decide (nextK y = 2) = true) ∨ (decide (nextK y = 1) = false ∧ decide (nextK z = 2) = false) := by
  by_cases h1 : nextK y = 1
  · obtain ⟨g1, g2⟩ := h.goes h1
    exact .inl ⟨decide_eq_true h1, decide_eq_true g1, decide_eq_false (by rw [g1]; decide), g2⟩
  · by_cases h2 : nextK z = 2
    · exact .inr (.inl ⟨decide_eq_false h1, decide_eq_true h2, decide_eq_true (h.strt h2)⟩)
    · exact .inr (.inr ⟨decide_eq_false h1, decide_eq_false h2⟩)

theorem tw_stepS {it : Items} {m : Nat} (hm : m ≤ 1000) {y z : Sr} (hy : okSr y = true) (hz : okSr z = true) (h : LateR y z) {i : Nat} (hi : i ≤ m + 1) :
    Takes Try.prog (tabT T) ra base 0 (codeOf 7 (false :: pT)) (mkT 133 (Two.at ⟨true, it, m, y, z⟩ i)) (hp 0 (Two.blks ⟨true, it, m, y, z⟩)) fun x =>
      (i < m + 1 ∧ x = (.normal, mkT 133 (Two.at ⟨true, it, m, next y, next z⟩ ((i + 1 : Nat) : Int)), hp 0 (Two.blks ⟨true, it, m, next y, next z⟩))) ∨ x = (.exit 0, mkT 133 [], hp 0 []) := by
  have hE := tabT_plain T
  have hS := S3_ok (ra := ra) (base := base) T
  have hs := late_step h
  obtain ⟨d0, d1, d2, d3, d4, d5, d6, d7⟩ := late_d hs
  have ny := next_ok hy
  have nz := next_ok hz
  have o1 : okSrc ⟨.full, y⟩ = true := by rw [okSrc, hy]; rfl
  have o2 : okSrc ⟨.full, z⟩ = true := by rw [okSrc, hz]; rfl
  have o3 : okSrc ⟨.full, next y⟩ = true := by rw [okSrc, ny.1]; rfl
  have o4 : okSrc ⟨.full, next z⟩ = true := by rw [okSrc, nz.1]; rfl
  have e1 := eta h.it
  have e2 := eta ny.2.1
  have e3 := eta (nz.2.1.trans h.it)
  have hb : Two.blks ⟨true, it, m, next y, next z⟩ = Two.blks ⟨true, it, m, ⟨y.it, (next y).late, (next y).f, (next y).pl, (next y).over⟩, ⟨y.it, (next z).late, (next z).f, (next z).pl, (next z).over⟩⟩ := by rw [e2, e3]
  have hz0 : Two.blks ⟨true, it, m, y, z⟩ = Two.blks ⟨true, it, m, y, ⟨y.it, z.late, z.f, z.pl, z.over⟩⟩ := by rw [e1]
  rw [hz0]
  refine takes_of_tree hE (wE hE hS) (f := 7) (.inr (by kernel_rfl)) (hp_below _) (tw_roundS T i it m y z) ?_
  rw [e1]
  simp only [e2, e3, Tree.holds, decide_true, Bool.and_self, Bool.and_true, Bool.true_and, true_and, o1, o2, o3, o4, d0, d1, d2, d3, d4, d5, d6, d7, Bool.not_true, Bool.false_eq_true, false_implies, forall_const, decide_eq_true_eq, decide_eq_false_iff_not]
  have leaf : i ≤ m → (mkT 133 [(5, .slice (.own 0 0 0 8) m none), (6, .ptr (.own 1 0 0 0)), (7, .ptr (.own 2 0 0 0)), (8, .int .i64 (wr .i64 ((i : Int) + 1)))]) = mkT 133 (Two.at ⟨true, it, m, next y, next z⟩ ((i + 1 : Nat) : Int)) := fun hh => by rw [till (by omega)]; rfl
  refine ⟨fun k1 => ?_, fun _ => .inr rfl⟩
  have hle : i ≤ m := by omega
  rw [leaf hle]
  refine ⟨fun a => ⟨fun b => absurd (hs.goes a).1 (by simpa using b), fun b => ⟨fun c => ?_, fun _ => ?_⟩⟩, fun a => ⟨fun b => ⟨fun c => absurd (hs.strt b) (by simpa using c), fun c => .inl ⟨by omega, by rw [hb]; rfl⟩⟩, fun b => .inl ⟨by omega, by rw [hb]; rfl⟩⟩⟩
  · exfalso
    rw [(hs.goes a).2] at c
    simp at c
  · exact ⟨by rw [(hs.goes a).1]; decide, .inl ⟨by omega, by rw [hb]; rfl⟩⟩

theorem tw_stepN {y z : Sr} (hy : okSr y = true) (hz : okSr z = true) (hyi : y.it = .none) (h : LateR y z) {i : Nat} (hi : i ≤ 1) :
    Takes Try.prog (tabT T) ra base 0 (codeOf 7 (false :: pT)) (mkT 133 (Two.at ⟨false, .none, 0, y, z⟩ i)) (hp 0 (Two.blks ⟨false, .none, 0, y, z⟩)) fun x =>
      (i < 1 ∧ x = (.normal, mkT 133 (Two.at ⟨false, .none, 0, next y, next z⟩ ((i + 1 : Nat) : Int)), hp 0 (Two.blks ⟨false, .none, 0, next y, next z⟩))) ∨ x = (.exit 0, mkT 133 [], hp 0 []) := by
  have hE := tabT_plain T
  have hS := S3_ok (ra := ra) (base := base) T
  have hs := late_step h
  obtain ⟨d0, d1, d2, d3, d4, d5, d6, d7⟩ := late_d hs
  have ny := next_ok hy
  have nz := next_ok hz
  have hzi : z.it = .none := h.it.trans hyi
  have em : ∀ {w : Sr}, w.it = .none → w.it.im.isEmpty = true := fun h => by rw [h]; rfl
  have o1 : okSrc ⟨.nil, y⟩ = true := by rw [okSrc, hy]; exact em hyi
  have o2 : okSrc ⟨.nil, z⟩ = true := by rw [okSrc, hz]; exact em hzi
  have o3 : okSrc ⟨.nil, next y⟩ = true := by rw [okSrc, ny.1]; exact em (ny.2.1.trans hyi)
  have o4 : okSrc ⟨.nil, next z⟩ = true := by rw [okSrc, nz.1]; exact em (nz.2.1.trans hzi)
  have e0 := eta hyi
  have e1 := eta hzi
  have e2 := eta (ny.2.1.trans hyi)
  have e3 := eta (nz.2.1.trans hzi)
  refine takes_of_tree hE (wE hE hS) (f := 7) (.inr (by kernel_rfl)) (hp_below _) (tw_roundN T i y z) ?_
  rw [e0, e1]
  simp only [e2, e3, Tree.holds, decide_true, Bool.and_self, Bool.and_true, Bool.true_and, true_and, o1, o2, o3, o4, d0, d1, d2, d3, d4, d5, d6, d7, Bool.not_true, Bool.false_eq_true, false_implies, forall_const, decide_eq_true_eq, decide_eq_false_iff_not]
  refine ⟨fun k1 => ?_, fun _ => .inr rfl⟩
  have hle : i ≤ 0 := by omega
  rw [till (by omega)]
  refine ⟨fun a => ⟨fun b => absurd (hs.goes a).1 (by simpa using b), fun b => ⟨fun c => ?_, fun _ => ?_⟩⟩, fun a => ⟨fun b => ⟨fun c => absurd (hs.strt b) (by simpa using c), fun c => .inl ⟨by omega, rfl⟩⟩, fun b => .inl ⟨by omega, rfl⟩⟩⟩
  · exfalso
    rw [(hs.goes a).2] at c
    simp at c
  · exact ⟨by rw [(hs.goes a).1]; decide, .inl ⟨by omega, rfl⟩⟩

theorem sameI_iff {a b : Items} : sameI a b = true ↔ a = b := by
  obtain ⟨a1, a2, a3, a4, a5, a6, a7, a8⟩ := a
  obtain ⟨b1, b2, b3, b4, b5, b6, b7, b8⟩ := b
  simp only [sameI, Bool.and_eq_true, decide_eq_true_eq, Items.mk.injEq]

theorem tw_takes (x : Two) (hx : twD.pre x = true) : Takes Try.prog (tabT T) ra base 0 (.loop (codeOf 7 (false :: pT))) (mkT 133 (twD.ins x)) (hp 0 (twD.blks x)) fun z => PostL 133 x z twD.alts := by
  obtain ⟨full, it, m, y, z⟩ := x
  simp only [twD, okTwo, Bool.and_eq_true, decide_eq_true_eq, Bool.not_eq_true'] at hx
  obtain ⟨⟨h1, h2, h3, h4⟩, h5, h6, h7, h8, h9, h10, h11⟩ := hx
  have h3 := sameI_iff.1 h3
  obtain ⟨hy, gy⟩ := okBoth_iff.1 h1
  obtain ⟨hz, gz⟩ := okBoth_iff.1 h2
  have h0 : LateR y z := ⟨h3, h5, by rw [h10, h7], by rw [h11, h8], by rw [h9, h6]; exact Int.le_refl _⟩
  cases full with
  | true =>
    have hm : m ≤ 1000 := by have := (okSr_iff.1 hy).2.1; omega
    refine takes_loop (fun j ts h => ∃ (i : Nat) (y' z' : Sr), i ≤ m + 1 ∧ j = m + 1 - i + 1 ∧ okSr y' = true ∧ okSr z' = true ∧ LateR y' z' ∧ ts = mkT 133 (Two.at ⟨true, it, m, y', z'⟩ i) ∧ h = hp 0 (Two.blks ⟨true, it, m, y', z'⟩)) (fun ts h => by rintro ⟨_, _, _, _, h, _⟩; omega) (fun j ts h' => ?_) (j := m + 2) ⟨0, y, z, Nat.zero_le _, by omega, hy, hz, h0, rfl, rfl⟩
    rintro ⟨i, y', z', k1, k2, k3, k4, k5, rfl, rfl⟩
    refine (tw_stepS hm k3 k4 k5 k1).mono ?_
    rintro w (⟨g1, rfl⟩ | rfl)
    · exact ⟨i + 1, next y', next z', by omega, by omega, (next_ok k3).1, (next_ok k4).1, (late_step k5).rel, rfl, rfl⟩
    · exact ⟨(), trivial, rfl⟩
  | false =>
    have hyi := empty_of hy (gy rfl)
    have hm : m = 0 := by rw [hyi] at h4; simpa [Items.none] using h4.symm
    subst hm
    have hb : twD.blks ⟨false, it, 0, y, z⟩ = Two.blks ⟨false, .none, 0, y, z⟩ := rfl
    rw [hb]
    refine takes_loop (fun j ts h => ∃ (i : Nat) (y' z' : Sr), i ≤ 1 ∧ j = 1 - i + 1 ∧ okSr y' = true ∧ okSr z' = true ∧ y'.it = .none ∧ LateR y' z' ∧ ts = mkT 133 (Two.at ⟨false, .none, 0, y', z'⟩ i) ∧ h = hp 0 (Two.blks ⟨false, .none, 0, y', z'⟩)) (fun ts h => by rintro ⟨_, _, _, _, h, _⟩; omega) (fun j ts h' => ?_) (j := 2) ⟨0, y, z, Nat.zero_le _, rfl, hy, hz, hyi, h0, rfl, rfl⟩
    rintro ⟨i, y', z', k1, k2, k3, k4, ki, k5, rfl, rfl⟩
    refine (tw_stepN k3 k4 ki k5 k1).mono ?_
    rintro w (⟨g1, rfl⟩ | rfl)
    · exact ⟨i + 1, next y', next z', by omega, by omega, (next_ok k3).1, (next_ok k4).1, (next_ok k3).2.1.trans ki, (late_step k5).rel, rfl, rfl⟩
    · exact ⟨(), trivial, rfl⟩

theorem TT_ok (T : Tb) : ToldsOK Try.prog (tabT T) ra base 0 TT := sumT_ok noT_ok rfl (toldR_ok (c := .loop (codeOf 7 (false :: pT))) (by kernel_rfl) tw_takes)
end
end Go.Proofs.Ytbpcfjhnkjobaaa
