/- source: SourceSeeks: the loops keep their contracts. -/
import Derived.Test.YtbpcfjhnkjobaaaP14q
import Derived.Test.YtbpcfjhnkjobaaaT14s
set_option linter.unusedSimpArgs false
namespace Go.Proofs.Ytbpcfjhnkjobaaa
open Ab

section
variable {ra : Nat → Nat → Nat × Nat} {base : Nat} {T : Tb}

theorem okSq_iff {x : Sq} : okSq x = true ↔ okBoth x.full x.y = true ∧ okBoth x.full x.z = true ∧ x.z.it = x.y.it := by
  simp only [okSq, Bool.and_eq_true, sameI_iff]
theorem nil_it {y : Sr} (h : okBoth false y = true) : y.it = .none := let ⟨h1, h2⟩ := okBoth_iff.1 h; empty_of h1 (h2 rfl)
theorem ok_nil {y : Sr} (h : okBoth false y = true) : okSrc ⟨.nil, y⟩ = true := by
  obtain ⟨h1, h2⟩ := okBoth_iff.1 h
  rw [okSrc, h1]; exact h2 rfl
theorem ok_full {y : Sr} (h : okBoth true y = true) : okSrc ⟨.full, y⟩ = true := by
  obtain ⟨h1, h2⟩ := okBoth_iff.1 h
  rw [okSrc, h1]; rfl
theorem both_next {full : Bool} {y : Sr} (h : okBoth full y = true) : okBoth full (next y) = true := by
  obtain ⟨h1, _⟩ := okBoth_iff.1 h
  obtain ⟨g1, g2, _⟩ := next_ok h1
  exact ok_both h g1 g2
theorem both_nth {full : Bool} {y : Sr} (h : okBoth full y = true) (k : Nat) : okBoth full (nth k y) = true := by
  obtain ⟨h1, _⟩ := okBoth_iff.1 h
  obtain ⟨g1, g2, _⟩ := nth_ok h1 k
  exact ok_both h g1 g2

def Sa.go1 (x : Sa) : Sa := ⟨x.p, x.q, ⟨x.s.full, x.s.y, next x.s.z⟩, x.al, x.n⟩
def Sa.go2 (x : Sa) : Sa := ⟨x.p, x.q, ⟨x.s.full, next x.s.y, x.s.z⟩, x.al, x.n⟩

theorem s1_step (x : Sa) (hx : okSq x.s = true) {i : Nat} (hi : i ≤ 1002) : Takes Try.prog (tabT T) ra base 0 (codeOf 5 (false :: p1)) (mkT 161 (x.at1 i)) (hp 0 x.box) fun w =>
    (x.s.z.over = false ∧ i < 1002 ∧ w = (.normal, mkT 161 (x.at1 ((i + 1 : Nat) : Int)), hp 0 x.go1.box)) ∨ ((x.s.z.over = true ∨ i = 1002) ∧ w = (.exit 0, mkT 161 (x.at1 i), hp 0 x.box)) := by
  have hE := tabT_plain T
  have hS := S3_ok (ra := ra) (base := base) T
  obtain ⟨p, q, ⟨full, y, z⟩, al, n⟩ := x
  obtain ⟨h1, h2, h3⟩ := okSq_iff.1 hx
  simp only at h1 h2 h3
  have h4 := both_next h2
  have ez := (next_ok (okBoth_iff.1 h2).1).2.1.trans h3
  cases full with
  | true =>
    have e1 := eta h3
    have e2 := eta ez
    have o1 := ok_full h2
    have o2 := ok_full h4
    have hb : Sa.box ⟨p, q, ⟨true, y, z⟩, al, n⟩ = Sa.box ⟨p, q, ⟨true, y, ⟨y.it, z.late, z.f, z.pl, z.over⟩⟩, 0, 0⟩ := by rw [e1]; rfl
    rw [hb]
    refine takes_of_tree hE (wE hE hS) (f := 5) (.inr (by kernel_rfl)) (hp_below _) (s1_S T p q i y z) ?_
    rw [e1]
    simp only [e1, e2, Tree.holds, decide_true, Bool.and_self, Bool.and_true, Bool.true_and, true_and, o1, o2, Bool.not_true, Bool.false_eq_true, false_implies, forall_const, decide_eq_true_eq, decide_eq_false_iff_not, Bool.not_eq_true', Bool.not_eq_false']
    refine ⟨fun a => ⟨fun b => .inl ⟨a, by omega, ?_⟩, fun b => .inr ⟨.inr (by omega), rfl⟩⟩, fun a => .inr ⟨.inl a, rfl⟩⟩
    rw [till (by omega)]
    rfl
  | false =>
    have hyi := nil_it h1
    have e1 := eta (h3.trans hyi)
    have e2 := eta (ez.trans hyi)
    have o1 := ok_nil h2
    have o2 := ok_nil h4
    refine takes_of_tree hE (wE hE hS) (f := 5) (.inr (by kernel_rfl)) (hp_below _) (s1_N T p q i y z) ?_
    simp only [e1, e2, Tree.holds, decide_true, Bool.and_self, Bool.and_true, Bool.true_and, true_and, o1, o2, Bool.not_true, Bool.false_eq_true, false_implies, forall_const, decide_eq_true_eq, decide_eq_false_iff_not, Bool.not_eq_true', Bool.not_eq_false']
    refine ⟨fun a => ⟨fun b => .inl ⟨a, by omega, ?_⟩, fun b => .inr ⟨.inr (by omega), rfl⟩⟩, fun a => .inr ⟨.inl a, rfl⟩⟩
    rw [till (by omega)]
    rfl

theorem s3_step (x : Sa) (hx : okSq x.s = true) {i k : Nat} (hk : x.n = k) (hi : i ≤ k) (hk1 : k ≤ 1001) : Takes Try.prog (tabT T) ra base 0 (codeOf 5 (false :: p3)) (mkT 161 (x.at3 i)) (hp 0 (x.s.blks 0)) fun w =>
    (i < k ∧ w = (.normal, mkT 161 (x.at3 ((i + 1 : Nat) : Int)), hp 0 (x.go1.s.blks 0))) ∨ (i = k ∧ w = (.exit 4, mkT 161 x.out2, hp 0 (x.s.blks 0))) := by
  have hE := tabT_plain T
  have hS := S3_ok (ra := ra) (base := base) T
  obtain ⟨p, q, ⟨full, y, z⟩, al, n⟩ := x
  obtain ⟨h1, h2, h3⟩ := okSq_iff.1 hx
  simp only at h1 h2 h3 hk
  subst hk
  have h4 := both_next h2
  have ez := (next_ok (okBoth_iff.1 h2).1).2.1.trans h3
  cases full with
  | true =>
    have e1 := eta h3
    have e2 := eta ez
    have o1 := ok_full h2
    have o2 := ok_full h4
    have hb : Sq.blks 0 ⟨true, y, z⟩ = Sq.blks 0 ⟨true, y, ⟨y.it, z.late, z.f, z.pl, z.over⟩⟩ := by rw [e1]
    rw [hb]
    refine takes_of_tree hE (wE hE hS) (f := 5) (.inr (by kernel_rfl)) (hp_below _) (s3_S T al k i y z) ?_
    rw [e1]
    simp only [e1, e2, Tree.holds, decide_true, Bool.and_self, Bool.and_true, Bool.true_and, true_and, o1, o2, Bool.not_true, Bool.false_eq_true, false_implies, forall_const, decide_eq_true_eq, decide_eq_false_iff_not, Bool.not_eq_true', Bool.not_eq_false']
    refine ⟨fun b => .inl ⟨by omega, ?_⟩, fun b => .inr ⟨by omega, rfl⟩⟩
    rw [till (by omega)]
    rfl
  | false =>
    have hyi := nil_it h1
    have e1 := eta (h3.trans hyi)
    have e2 := eta (ez.trans hyi)
    have o1 := ok_nil h2
    have o2 := ok_nil h4
    refine takes_of_tree hE (wE hE hS) (f := 5) (.inr (by kernel_rfl)) (hp_below _) (s3_N T al k i y z) ?_
    simp only [e1, e2, Tree.holds, decide_true, Bool.and_self, Bool.and_true, Bool.true_and, true_and, o1, o2, Bool.not_true, Bool.false_eq_true, false_implies, forall_const, decide_eq_true_eq, decide_eq_false_iff_not, Bool.not_eq_true', Bool.not_eq_false']
    refine ⟨fun b => .inl ⟨by omega, ?_⟩, fun b => .inr ⟨by omega, rfl⟩⟩
    rw [till (by omega)]
    rfl

theorem s2_step (x : Sa) (hx : okSq x.s = true) {i k : Nat} (hal : 0 ≤ x.al ∧ x.al ≤ 1001) (hq : 0 ≤ x.q ∧ x.q < 65536) (hk : x.j = k) (hi : i ≤ k) (hk1 : k ≤ 1003) : Takes Try.prog (tabT T) ra base 0 (codeOf 5 (false :: p2)) (mkT 161 (x.at2 i)) (hp 0 x.box) fun w =>
    (i < k ∧ w = (.normal, mkT 161 (x.at2 ((i + 1 : Nat) : Int)), hp 0 x.go2.box)) ∨ (i = k ∧ w = (.exit 2, mkT 161 x.out2, hp 0 (x.s.blks 0))) := by
  have hE := tabT_plain T
  have hS := S3_ok (ra := ra) (base := base) T
  obtain ⟨p, q, ⟨full, y, z⟩, al, n⟩ := x
  obtain ⟨h1, h2, h3⟩ := okSq_iff.1 hx
  simp only at h1 h2 h3 hal hq
  have hkk : Int.tmod q (al + 2) = k := hk
  have w1 : wr .i64 (al + 2) = al + 2 := wr_in ⟨by omega, by omega⟩
  have w2 : wr .i64 q = q := wr_in ⟨by omega, by omega⟩
  have w3 : decide (¬ al + 2 = 0) = true := decide_eq_true (by omega)
  have h4 := both_next h1
  have ey := (next_ok (okBoth_iff.1 h1).1).2.1
  cases full with
  | true =>
    have e1 := eta h3
    have e2 := eta ey
    have o1 := ok_full h1
    have o2 := ok_full h4
    have hb : Sa.box ⟨p, q, ⟨true, y, z⟩, al, n⟩ = Sa.box ⟨p, q, ⟨true, y, ⟨y.it, z.late, z.f, z.pl, z.over⟩⟩, al, n⟩ := by rw [e1]
    rw [hb]
    refine takes_of_tree hE (wE hE hS) (f := 5) (.inr (by kernel_rfl)) (hp_below _) (s2_S T p q al n i y z) ?_
    rw [w1, w2, hkk]
    simp only [e1, e2, w3, Tree.holds, decide_true, Bool.and_self, Bool.and_true, Bool.true_and, true_and, o1, o2, Bool.not_true, Bool.false_eq_true, false_implies, forall_const, decide_eq_true_eq, decide_eq_false_iff_not, Bool.not_eq_true', Bool.not_eq_false']
    refine ⟨fun b => .inl ⟨by omega, ?_⟩, fun b => .inr ⟨by omega, rfl⟩⟩
    rw [till (by omega)]
    show _ = (AExit.normal, _, hp 0 (boxB p q :: Sq.blks 1 ⟨true, next y, z⟩))
    rw [show Sq.blks 1 ⟨true, next y, z⟩ = Sq.blks 1 ⟨true, ⟨y.it, (next y).late, (next y).f, (next y).pl, (next y).over⟩, z⟩ by rw [e2]]
    rfl
  | false =>
    have hyi := nil_it h1
    have e1 := eta hyi
    have e2 := eta (ey.trans hyi)
    have o1 := ok_nil h1
    have o2 := ok_nil h4
    refine takes_of_tree hE (wE hE hS) (f := 5) (.inr (by kernel_rfl)) (hp_below _) (s2_N T p q al n i y z) ?_
    rw [w1, w2, hkk]
    simp only [e1, e2, w3, Tree.holds, decide_true, Bool.and_self, Bool.and_true, Bool.true_and, true_and, o1, o2, Bool.not_true, Bool.false_eq_true, false_implies, forall_const, decide_eq_true_eq, decide_eq_false_iff_not, Bool.not_eq_true', Bool.not_eq_false']
    refine ⟨fun b => .inl ⟨by omega, ?_⟩, fun b => .inr ⟨by omega, rfl⟩⟩
    rw [till (by omega)]
    rfl

theorem s4_step {full : Bool} {y : Sr} (h1 : okBoth full y = true) (p q n : Int) {i k : Nat} (hi : i ≤ k + 1) (hk1 : k ≤ 1001) (ho : i ≤ k → y.over = decide (i = k)) :
    Takes Try.prog (tabT T) ra base 0 (codeOf 5 (false :: p4)) (mkT 161 (Sa.at4 ⟨p, q, ⟨full, y, y⟩, k, n⟩ i)) (hp 0 (Sq.blks 0 ⟨full, y, y⟩)) fun w =>
    (i ≤ k ∧ w = (.normal, mkT 161 (Sa.at4 ⟨p, q, ⟨full, next y, next y⟩, k, n⟩ ((i + 1 : Nat) : Int)), hp 0 (Sq.blks 0 ⟨full, next y, next y⟩))) ∨ (i = k + 1 ∧ w = (.exit 6, mkT 161 [(8, .ptr (.own 0 0 0 0)), (10, .int .i64 k)], hp 0 (match full with
    | true => [y.cells (sl 1 y.it.im.length), y.it.blk]
    | false => [y.cells .nils]))) := by
  have hE := tabT_plain T
  have hS := S3_ok (ra := ra) (base := base) T
  have h4 := both_next h1
  have ey := (next_ok (okBoth_iff.1 h1).1).2.1
  have hd : decide ((i : Int) = (k : Int)) = decide (i = k) := by
    rw [decide_eq_decide]; omega
  cases full with
  | true =>
    have e1 := eta (s := y) rfl
    have e2 := eta ey
    have o1 := ok_full h1
    have o2 := ok_full h4
    refine takes_of_tree hE (wE hE hS) (f := 5) (.inr (by kernel_rfl)) (hp_below _) (s4_S T k i y) ?_
    rw [hd]
    simp only [e1, e2, Tree.holds, decide_true, Bool.and_self, Bool.and_true, Bool.true_and, true_and, o1, o2, Bool.not_true, Bool.false_eq_true, false_implies, forall_const, decide_eq_true_eq, decide_eq_false_iff_not, Bool.not_eq_true', Bool.not_eq_false']
    refine ⟨fun a => ?_, fun b => .inr ⟨by omega, rfl⟩⟩
    have ho := ho (by omega)
    refine ⟨fun b => absurd ho b, fun _ => .inl ⟨by omega, ?_⟩⟩
    rw [till (by omega)]
    rw [show Sq.blks 0 ⟨true, next y, next y⟩ = Sq.blks 0 ⟨true, ⟨y.it, (next y).late, (next y).f, (next y).pl, (next y).over⟩, ⟨y.it, (next y).late, (next y).f, (next y).pl, (next y).over⟩⟩ by rw [e2]]
    rfl
  | false =>
    have hyi := nil_it h1
    have e1 := eta hyi
    have e2 := eta (ey.trans hyi)
    have o1 := ok_nil h1
    have o2 := ok_nil h4
    refine takes_of_tree hE (wE hE hS) (f := 5) (.inr (by kernel_rfl)) (hp_below _) (s4_N T k i y) ?_
    rw [hd]
    simp only [e1, e2, Tree.holds, decide_true, Bool.and_self, Bool.and_true, Bool.true_and, true_and, o1, o2, Bool.not_true, Bool.false_eq_true, false_implies, forall_const, decide_eq_true_eq, decide_eq_false_iff_not, Bool.not_eq_true', Bool.not_eq_false']
    refine ⟨fun a => ?_, fun b => .inr ⟨by omega, rfl⟩⟩
    have ho := ho (by omega)
    refine ⟨fun b => absurd ho b, fun _ => .inl ⟨by omega, ?_⟩⟩
    rw [till (by omega)]
    rfl
end
end Go.Proofs.Ytbpcfjhnkjobaaa
