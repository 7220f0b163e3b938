/- send: SendOrder: the round, the loops behind, the whole. -/
import Derived.Test.YtoahbijmemgghaaP20o
import Derived.Test.YtoahbijmemgghaaT20n
import Derived.Test.YtoahbijmemgghaaT20m
set_option linter.unusedSimpArgs false
namespace Go.Proofs.Ytoahbijmemgghaa
open Ab

section
variable {ra : Nat → Nat → Nat × Nat} {base : Nat} {a b : List Int}

theorem up_ok {i p k : Int} {s : Sv} (h : s.ok i p k = true) (hi : i < 200) : s.ok (i + 1) p k = true := by
  cases s with
  | s0 k' m => obtain ⟨rfl, H⟩ := un0 h; exact mk0 (H.up hi)
  | s1 x => obtain ⟨h1, h2, H⟩ := un1 h; exact mk1 h1 h2 (H.up hi)
  | s2 x es => obtain ⟨h1, h2, H⟩ := un2 h; exact mk2 h1 h2 (H.up hi)
  | s3 x es an rs => obtain ⟨h1, h2, H⟩ := un3 h; exact mk3 h1 h2 (H.up hi)
  | s4 x es an rs tk f q => obtain ⟨h1, h2, H⟩ := un4 h; exact mk4 h1 h2 (H.up hi)

theorem oa_takes (y : Os) (h : okG a y = true) : Takes Try.prog (tabC a b) ra base 0 (codeOf 4 pOA) (mkT 314 (y.g.ins y.s.el ++ eT y)) (hp 0 y.s.bs) fun z => PostL 314 y z altsO := by
  have hE := tabC_plain a b
  have hS := S2_ok (E := tabC a b) (ra := ra) (base := base) hE
  have hT := TO_ok (ra := ra) (base := base) (a := a) (b := b)
  obtain ⟨⟨v, k, p, i⟩, s, j, e⟩ := y
  obtain ⟨hs, i0, i2, iv, va, j0, j2⟩ := okG_un h
  simp only at hs i0 i2 iv va j0 j2
  have hu := up_ok hs i2
  have g1 : okG a ⟨⟨v, k, p, i⟩, s, j, 0⟩ = true := h
  have g0 : okG a ⟨⟨v, k, p, i⟩, s, 0, 0⟩ = true := by
    simp only [okG, Bool.and_eq_true, decide_eq_true_eq]
    exact ⟨hs, i0, i2, iv, va, by decide, by decide⟩
  cases s with
  | s0 k' m =>
    refine takes_of_treeQ hE (W_ok hS noL_ok) hT (f := 4) (.inr (by kernel_rfl)) (hp_below _) (oa_s0 a b v k p i j e k' m) ?_
    simp only [TreeQ.holds, decide_true, Bool.and_self, Bool.and_true, Bool.true_and, true_and, qSame_self, cap_self, Bool.not_true, Bool.false_eq_true, Bool.true_eq_false, false_implies, true_implies, forall_const, and_true, g0, g1]
    have A := fun (z : State) (hz : z = (.normal, mkT 314 (Ks.ins ⟨v, k, p, i⟩ (Sv.el (.s0 k' m))), hp 0 (Sv.bs (.s0 k' m)))) => (fin0 p k' m hu hz : PostL 314 (⟨⟨v, k, p, i⟩, .s0 k' m, j, e⟩ : Os) z altsO)
    refine ⟨fun g => ?_, fun _ => ⟨fun g => ?_, fun _ => ⟨fun g => ?_, fun _ => ⟨fun g => ?_, fun _ => ⟨fun g => ?_, fun _ => ⟨fun g => ?_, fun _ => ⟨fun g => ?_, fun _ => ⟨fun g => ?_, fun _ => A _ rfl⟩⟩⟩⟩⟩⟩⟩⟩
    all_goals first
      | exact ⟨fun y h => fin0 y.p y.k y.m h rfl, fun y h => fin1 y.p y.x h rfl, fun y h => fin2 y.p y.x y.es h rfl, fun y h => fin3 y.p y.x y.es y.an y.rs h rfl, fun y h => fin4 y.p y.x y.es y.an y.rs y.tk y.f y.q h rfl⟩
      | exact ⟨g, ⟨fun y h => fin0 y.p y.k y.m h rfl, fun y h => fin1 y.p y.x h rfl, fun y h => fin2 y.p y.x y.es h rfl, fun y h => fin3 y.p y.x y.es y.an y.rs h rfl, fun y h => fin4 y.p y.x y.es y.an y.rs y.tk y.f y.q h rfl⟩⟩
  | s1 x =>
    refine takes_of_treeQ hE (W_ok hS noL_ok) hT (f := 4) (.inr (by kernel_rfl)) (hp_below _) (oa_s1 a b v k p i j e x) ?_
    simp only [TreeQ.holds, decide_true, Bool.and_self, Bool.and_true, Bool.true_and, true_and, qSame_self, cap_self, Bool.not_true, Bool.false_eq_true, Bool.true_eq_false, false_implies, true_implies, forall_const, and_true, g0, g1]
    have A := fun (z : State) (hz : z = (.normal, mkT 314 (Ks.ins ⟨v, k, p, i⟩ (Sv.el (.s1 x))), hp 0 (Sv.bs (.s1 x)))) => (fin1 p x hu hz : PostL 314 (⟨⟨v, k, p, i⟩, .s1 x, j, e⟩ : Os) z altsO)
    refine ⟨fun g => ?_, fun _ => ⟨fun g => ?_, fun _ => ⟨fun g => ?_, fun _ => ⟨fun g => ?_, fun _ => ⟨fun g => ?_, fun _ => ⟨fun g => ?_, fun _ => ⟨fun g => ?_, fun _ => ⟨fun g => ?_, fun _ => A _ rfl⟩⟩⟩⟩⟩⟩⟩⟩
    all_goals first
      | exact ⟨fun y h => fin0 y.p y.k y.m h rfl, fun y h => fin1 y.p y.x h rfl, fun y h => fin2 y.p y.x y.es h rfl, fun y h => fin3 y.p y.x y.es y.an y.rs h rfl, fun y h => fin4 y.p y.x y.es y.an y.rs y.tk y.f y.q h rfl⟩
      | exact ⟨g, ⟨fun y h => fin0 y.p y.k y.m h rfl, fun y h => fin1 y.p y.x h rfl, fun y h => fin2 y.p y.x y.es h rfl, fun y h => fin3 y.p y.x y.es y.an y.rs h rfl, fun y h => fin4 y.p y.x y.es y.an y.rs y.tk y.f y.q h rfl⟩⟩
  | s2 x es =>
    refine takes_of_treeQ hE (W_ok hS noL_ok) hT (f := 4) (.inr (by kernel_rfl)) (hp_below _) (oa_s2 a b v k p i j e x es) ?_
    simp only [TreeQ.holds, decide_true, Bool.and_self, Bool.and_true, Bool.true_and, true_and, qSame_self, cap_self, Bool.not_true, Bool.false_eq_true, Bool.true_eq_false, false_implies, true_implies, forall_const, and_true, g0, g1]
    have A := fun (z : State) (hz : z = (.normal, mkT 314 (Ks.ins ⟨v, k, p, i⟩ (Sv.el (.s2 x es))), hp 0 (Sv.bs (.s2 x es)))) => (fin2 p x es hu hz : PostL 314 (⟨⟨v, k, p, i⟩, .s2 x es, j, e⟩ : Os) z altsO)
    refine ⟨fun g => ?_, fun _ => ⟨fun g => ?_, fun _ => ⟨fun g => ?_, fun _ => ⟨fun g => ?_, fun _ => ⟨fun g => ?_, fun _ => ⟨fun g => ?_, fun _ => ⟨fun g => ?_, fun _ => ⟨fun g => ?_, fun _ => A _ rfl⟩⟩⟩⟩⟩⟩⟩⟩
    all_goals first
      | exact ⟨fun y h => fin0 y.p y.k y.m h rfl, fun y h => fin1 y.p y.x h rfl, fun y h => fin2 y.p y.x y.es h rfl, fun y h => fin3 y.p y.x y.es y.an y.rs h rfl, fun y h => fin4 y.p y.x y.es y.an y.rs y.tk y.f y.q h rfl⟩
      | exact ⟨g, ⟨fun y h => fin0 y.p y.k y.m h rfl, fun y h => fin1 y.p y.x h rfl, fun y h => fin2 y.p y.x y.es h rfl, fun y h => fin3 y.p y.x y.es y.an y.rs h rfl, fun y h => fin4 y.p y.x y.es y.an y.rs y.tk y.f y.q h rfl⟩⟩
  | s3 x es an rs =>
    refine takes_of_treeQ hE (W_ok hS noL_ok) hT (f := 4) (.inr (by kernel_rfl)) (hp_below _) (oa_s3 a b v k p i j e x es an rs) ?_
    simp only [TreeQ.holds, decide_true, Bool.and_self, Bool.and_true, Bool.true_and, true_and, qSame_self, cap_self, Bool.not_true, Bool.false_eq_true, Bool.true_eq_false, false_implies, true_implies, forall_const, and_true, g0, g1]
    have A := fun (z : State) (hz : z = (.normal, mkT 314 (Ks.ins ⟨v, k, p, i⟩ (Sv.el (.s3 x es an rs))), hp 0 (Sv.bs (.s3 x es an rs)))) => (fin3 p x es an rs hu hz : PostL 314 (⟨⟨v, k, p, i⟩, .s3 x es an rs, j, e⟩ : Os) z altsO)
    refine ⟨fun g => ?_, fun _ => ⟨fun g => ?_, fun _ => ⟨fun g => ?_, fun _ => ⟨fun g => ?_, fun _ => ⟨fun g => ?_, fun _ => ⟨fun g => ?_, fun _ => ⟨fun g => ?_, fun _ => ⟨fun g => ?_, fun _ => A _ rfl⟩⟩⟩⟩⟩⟩⟩⟩
    all_goals first
      | exact ⟨fun y h => fin0 y.p y.k y.m h rfl, fun y h => fin1 y.p y.x h rfl, fun y h => fin2 y.p y.x y.es h rfl, fun y h => fin3 y.p y.x y.es y.an y.rs h rfl, fun y h => fin4 y.p y.x y.es y.an y.rs y.tk y.f y.q h rfl⟩
      | exact ⟨g, ⟨fun y h => fin0 y.p y.k y.m h rfl, fun y h => fin1 y.p y.x h rfl, fun y h => fin2 y.p y.x y.es h rfl, fun y h => fin3 y.p y.x y.es y.an y.rs h rfl, fun y h => fin4 y.p y.x y.es y.an y.rs y.tk y.f y.q h rfl⟩⟩
  | s4 x es an rs tk f q =>
    refine takes_of_treeQ hE (W_ok hS noL_ok) hT (f := 4) (.inr (by kernel_rfl)) (hp_below _) (oa_s4 a b v k p i j e x es an rs tk f q) ?_
    simp only [TreeQ.holds, decide_true, Bool.and_self, Bool.and_true, Bool.true_and, true_and, qSame_self, cap_self, Bool.not_true, Bool.false_eq_true, Bool.true_eq_false, false_implies, true_implies, forall_const, and_true, g0, g1]
    have A := fun (z : State) (hz : z = (.normal, mkT 314 (Ks.ins ⟨v, k, p, i⟩ (Sv.el (.s4 x es an rs tk f q))), hp 0 (Sv.bs (.s4 x es an rs tk f q)))) => (fin4 p x es an rs tk f q hu hz : PostL 314 (⟨⟨v, k, p, i⟩, .s4 x es an rs tk f q, j, e⟩ : Os) z altsO)
    refine ⟨fun g => ?_, fun _ => ⟨fun g => ?_, fun _ => ⟨fun g => ?_, fun _ => ⟨fun g => ?_, fun _ => ⟨fun g => ?_, fun _ => ⟨fun g => ?_, fun _ => ⟨fun g => ?_, fun _ => ⟨fun g => ?_, fun _ => A _ rfl⟩⟩⟩⟩⟩⟩⟩⟩
    all_goals first
      | exact ⟨fun y h => fin0 y.p y.k y.m h rfl, fun y h => fin1 y.p y.x h rfl, fun y h => fin2 y.p y.x y.es h rfl, fun y h => fin3 y.p y.x y.es y.an y.rs h rfl, fun y h => fin4 y.p y.x y.es y.an y.rs y.tk y.f y.q h rfl⟩
      | exact ⟨g, ⟨fun y h => fin0 y.p y.k y.m h rfl, fun y h => fin1 y.p y.x h rfl, fun y h => fin2 y.p y.x y.es h rfl, fun y h => fin3 y.p y.x y.es y.an y.rs h rfl, fun y h => fin4 y.p y.x y.es y.an y.rs y.tk y.f y.q h rfl⟩⟩

theorem ot_takes (y : Os) (h : tailD.pre y = true) : Takes Try.prog (tabC a b) ra base 0 (codeOf 4 pOT) (mkT 314 (tailD.ins y)) (hp 0 (tailD.blks y)) fun z => PostL 314 y z tailD.alts := by
  have hE := tabC_plain a b
  have hS := S2_ok (E := tabC a b) (ra := ra) (base := base) hE
  obtain ⟨⟨v, k, p, i⟩, s, j, e⟩ := y
  simp only [tailD, Bool.and_eq_true, decide_eq_true_eq] at h
  obtain ⟨hs, i0, i2⟩ := h
  cases s with
  | s0 k' m =>
    obtain ⟨rfl, H⟩ := un0 hs
    obtain ⟨k1, k2⟩ := newK H.hk
    have hbn := H.bn
    have o1 : Sx.ok (.z k' 0 m) = true := okN_iff.2 ⟨by decide, by omega, by omega, by decide, by decide, H.m0, by have := H.mm; omega⟩
    have hp0 : p = 0 := by omega
    subst hp0
    have w1 : wr .i64 (k' - 0) = Sx.k (.z k' 0 m) - ((Sx.n (.z k' 0 m) : Nat) : Int) := wr_in ⟨by omega, by omega⟩
    have w1' : wr .i64 (k' - ((Sx.n (.z k' 0 m) : Nat) : Int)) = Sx.k (.z k' 0 m) - ((Sx.n (.z k' 0 m) : Nat) : Int) := wr_in ⟨by show -9223372036854775808 ≤ k' - ((0 : Nat) : Int); omega, by show k' - ((0 : Nat) : Int) < 9223372036854775808; omega⟩
    have c1 : decide (k' < ((Sx.n (.z k' 0 m) : Nat) : Int)) = false := decide_eq_false (by show ¬ k' < ((0 : Nat) : Int); omega)
    have c2 : decide (k' < 0) = false := decide_eq_false (by omega)
    have w2 : wr .u64 (0 : Int) = 0 := rfl
    have w3 : wr .u64 ((Sx.n (.z k' 0 m) : Nat) : Int) = 0 := rfl
    have w4 : wr .u64 (Sx.b (.z k' 0 m) + 0) = 0 := rfl
    have c3 : decide (0 < Sx.b (.z k' 0 m)) = false := rfl
    refine takes_of_treeQ hE (W_ok hS noL_ok) noT_ok (f := 4) (.inr (by kernel_rfl)) (hp_below _) (ot_s0 a b v k' 0 i k' m) ?_
    simp only [TreeQ.holds, decide_true, Bool.and_self, Bool.and_true, Bool.true_and, true_and, qSame_self, cap_self, Bool.not_true, Bool.false_eq_true, Bool.true_eq_false, false_implies, true_implies, forall_const, and_true, o1, w1, w1', c1, c2, w2, w3, w4, c3]
    exact ⟨(), trivial, rfl⟩
  | s1 x =>
    obtain ⟨xk, hx, H⟩ := un1 hs
    obtain ⟨k1, k2⟩ := newK H.hk
    have hbn := H.bn
    have hnk := H.nk
    have hb0 := H.b0
    have hbf := H.bf
    have hpi := H.pi
    have o1 : Sx.ok (.q x) = true := hx
    have w1 : wr .i64 (k - ((Sx.n (.q x) : Nat) : Int)) = Sx.k (.q x) - ((Sx.n (.q x) : Nat) : Int) := by
      show wr .i64 (k - (x.n : Int)) = x.k - (x.n : Int)
      rw [xk]; exact wr_in ⟨by omega, by omega⟩
    have c1 : decide (k < ((Sx.n (.q x) : Nat) : Int)) = false := decide_eq_false (by show ¬ k < (x.n : Int); omega)
    have w2 : wr .u64 ((Sx.n (.q x) : Nat) : Int) = (x.n : Int) := wr_u64 ⟨by show 0 ≤ (x.n : Int); omega, by show (x.n : Int) < 18446744073709551616; omega⟩
    have w3 : wr .u64 (Sx.b (.q x) + (x.n : Int)) = wr .u64 p := by rw [← hbn]; rfl
    have c3 : decide (0 < Sx.b (.q x)) = false := decide_eq_false (by show ¬ 0 < x.b; omega)
    refine takes_of_treeQ hE (W_ok hS noL_ok) noT_ok (f := 4) (.inr (by kernel_rfl)) (hp_below _) (ot_s1 a b v k p i x) ?_
    simp only [TreeQ.holds, decide_true, Bool.and_self, Bool.and_true, Bool.true_and, true_and, qSame_self, cap_self, Bool.not_true, Bool.false_eq_true, Bool.true_eq_false, false_implies, true_implies, forall_const, and_true, o1, w1, c1, w2, w3, c3]
    exact ⟨(), trivial, rfl⟩
  | s2 x es =>
    obtain ⟨xk, hx, H⟩ := un2 hs
    obtain ⟨k1, k2⟩ := newK H.hk
    have hbn := H.bn
    have hnk := H.nk
    have hb0 := H.b0
    have hbf := H.bf
    have hpi := H.pi
    have o1 : Sx.ok (.q x) = true := hx
    have w1 : wr .i64 (k - ((Sx.n (.q x) : Nat) : Int)) = Sx.k (.q x) - ((Sx.n (.q x) : Nat) : Int) := by
      show wr .i64 (k - (x.n : Int)) = x.k - (x.n : Int)
      rw [xk]; exact wr_in ⟨by omega, by omega⟩
    have c1 : decide (k < ((Sx.n (.q x) : Nat) : Int)) = false := decide_eq_false (by show ¬ k < (x.n : Int); omega)
    have w2 : wr .u64 ((Sx.n (.q x) : Nat) : Int) = (x.n : Int) := wr_u64 ⟨by show 0 ≤ (x.n : Int); omega, by show (x.n : Int) < 18446744073709551616; omega⟩
    have w3 : wr .u64 (Sx.b (.q x) + (x.n : Int)) = wr .u64 p := by rw [← hbn]; rfl
    have c3 : decide (0 < Sx.b (.q x)) = false := decide_eq_false (by show ¬ 0 < x.b; omega)
    refine takes_of_treeQ hE (W_ok hS noL_ok) noT_ok (f := 4) (.inr (by kernel_rfl)) (hp_below _) (ot_s2 a b v k p i x es) ?_
    simp only [TreeQ.holds, decide_true, Bool.and_self, Bool.and_true, Bool.true_and, true_and, qSame_self, cap_self, Bool.not_true, Bool.false_eq_true, Bool.true_eq_false, false_implies, true_implies, forall_const, and_true, o1, w1, c1, w2, w3, c3]
    exact ⟨(), trivial, rfl⟩
  | s3 x es an rs =>
    obtain ⟨xk, hx, H⟩ := un3 hs
    obtain ⟨k1, k2⟩ := newK H.hk
    have hbn := H.bn
    have hnk := H.nk
    have hb0 := H.b0
    have hbf := H.bf
    have hpi := H.pi
    have o1 : Sx.ok (.q x) = true := hx
    have w1 : wr .i64 (k - ((Sx.n (.q x) : Nat) : Int)) = Sx.k (.q x) - ((Sx.n (.q x) : Nat) : Int) := by
      show wr .i64 (k - (x.n : Int)) = x.k - (x.n : Int)
      rw [xk]; exact wr_in ⟨by omega, by omega⟩
    have c1 : decide (k < ((Sx.n (.q x) : Nat) : Int)) = false := decide_eq_false (by show ¬ k < (x.n : Int); omega)
    have w2 : wr .u64 ((Sx.n (.q x) : Nat) : Int) = (x.n : Int) := wr_u64 ⟨by show 0 ≤ (x.n : Int); omega, by show (x.n : Int) < 18446744073709551616; omega⟩
    have w3 : wr .u64 (Sx.b (.q x) + (x.n : Int)) = wr .u64 p := by rw [← hbn]; rfl
    have c3 : decide (0 < Sx.b (.q x)) = false := decide_eq_false (by show ¬ 0 < x.b; omega)
    refine takes_of_treeQ hE (W_ok hS noL_ok) noT_ok (f := 4) (.inr (by kernel_rfl)) (hp_below _) (ot_s3 a b v k p i x es an rs) ?_
    simp only [TreeQ.holds, decide_true, Bool.and_self, Bool.and_true, Bool.true_and, true_and, qSame_self, cap_self, Bool.not_true, Bool.false_eq_true, Bool.true_eq_false, false_implies, true_implies, forall_const, and_true, o1, w1, c1, w2, w3, c3]
    exact ⟨(), trivial, rfl⟩
  | s4 x es an rs tk f q =>
    obtain ⟨xk, hx, H⟩ := un4 hs
    obtain ⟨k1, k2⟩ := newK H.hk
    have hbn := H.bn
    have hnk := H.nk
    have hb0 := H.b0
    have hbf := H.bf
    have hpi := H.pi
    have o1 : Sx.ok (.q x) = true := hx
    have w1 : wr .i64 (k - ((Sx.n (.q x) : Nat) : Int)) = Sx.k (.q x) - ((Sx.n (.q x) : Nat) : Int) := by
      show wr .i64 (k - (x.n : Int)) = x.k - (x.n : Int)
      rw [xk]; exact wr_in ⟨by omega, by omega⟩
    have c1 : decide (k < ((Sx.n (.q x) : Nat) : Int)) = false := decide_eq_false (by show ¬ k < (x.n : Int); omega)
    have w2 : wr .u64 ((Sx.n (.q x) : Nat) : Int) = (x.n : Int) := wr_u64 ⟨by show 0 ≤ (x.n : Int); omega, by show (x.n : Int) < 18446744073709551616; omega⟩
    have w3 : wr .u64 (Sx.b (.q x) + (x.n : Int)) = wr .u64 p := by rw [← hbn]; rfl
    have c3 : decide (f < Sx.b (.q x)) = false := decide_eq_false (by show ¬ f < x.b; omega)
    refine takes_of_treeQ hE (W_ok hS noL_ok) noT_ok (f := 4) (.inr (by kernel_rfl)) (hp_below _) (ot_s4 a b v k p i x es an rs tk f q) ?_
    simp only [TreeQ.holds, decide_true, Bool.and_self, Bool.and_true, Bool.true_and, true_and, qSame_self, cap_self, Bool.not_true, Bool.false_eq_true, Bool.true_eq_false, false_implies, true_implies, forall_const, and_true, o1, w1, c1, w2, w3, c3]
    exact ⟨(), trivial, rfl⟩

theorem TOA_ok : ToldsOK Try.prog (tabC a b) ra base 0 (TOA a) :=
  sumT_ok (sumT_ok noT_ok rfl (toldR_ok (c := codeOf 4 pOT) (by kernel_rfl) ot_takes)) rfl (toldR_ok (c := codeOf 4 pOA) (by kernel_rfl) oa_takes)

/-- what is kept of a state behind the choices -/
def Sv.fs : Sv → Fs
  | .s0 k m => .f0 k m
  | .s1 x => .f1 x
  | .s2 x _ => .f1 x
  | .s3 x _ an rs => .f3 x an rs
  | .s4 x _ an rs tk f q => .f4 x an rs tk f q

theorem Hold.drop {i p k b' m : Int} {n : Nat} {l es an rs tk : List Int} {f q : Int} (h : Hold i p k b' m n l es an rs tk f q) (hi : i ≤ 200) : Hold 200 p k b' m n l [] an rs tk f q :=
  { h with pi := by have := h.pi; omega, i2 := by decide, hes := fun e he => by simp at he, ai := by have := h.ai; omega, ei := by decide }

theorem fs_ok {i p k : Int} {s : Sv} (h : s.ok i p k = true) (hi : i ≤ 200) : s.fs.ok 200 p k = true := by
  cases s with
  | s0 k' m => obtain ⟨rfl, H⟩ := un0 h; rw [Sv.fs, Fs.ok, inv_iff.2 (H.drop hi), decide_eq_true rfl]; rfl
  | s1 x => obtain ⟨h1, h2, H⟩ := un1 h; rw [Sv.fs, Fs.ok, inv_iff.2 (H.drop hi), h2, decide_eq_true h1]; rfl
  | s2 x es => obtain ⟨h1, h2, H⟩ := un2 h; rw [Sv.fs, Fs.ok, inv_iff.2 (H.drop hi), h2, decide_eq_true h1]; rfl
  | s3 x es an rs => obtain ⟨h1, h2, H⟩ := un3 h; rw [Sv.fs, Fs.ok, inv_iff.2 (H.drop hi), h2, decide_eq_true h1]; rfl
  | s4 x es an rs tk f q => obtain ⟨h1, h2, H⟩ := un4 h; rw [Sv.fs, Fs.ok, inv_iff.2 (H.drop hi), h2, decide_eq_true h1]; rfl

def svAt (v : Nat) (k p i : Int) (s : Sv) : List (Nat × AVal) := Ks.ins ⟨v, k, p, i⟩ s.el

theorem order_step (hb : b.length = a.length) (ha8 : ∀ x ∈ a, 0 ≤ x ∧ x < 256) (hb8 : ∀ x ∈ b, 0 ≤ x ∧ x < 256) {k p : Int} {i : Nat} {s : Sv} (h : s.ok i p k = true) (hi : i ≤ 200) :
    Takes Try.prog (tabC a b) ra base 0 (codeOf 4 (false :: pOL)) (mkT 314 (svAt a.length k p i s)) (hp 0 s.bs) fun z =>
      (i < 200 ∧ ∃ p' s', s'.ok ((i + 1 : Nat) : Int) p' k = true ∧ z = (.normal, mkT 314 (svAt a.length k p' ((i + 1 : Nat) : Int) s'), hp 0 s'.bs)) ∨ z = (.exit 0, mkT 314 (Fo.ins ⟨k, p, 0, .f0 0 0⟩), hp 0 s.fs.bs) := by
  have hE := tabC_plain a b
  have hS := S2_ok (E := tabC a b) (ra := ra) (base := base) hE
  have hT := TOA_ok (ra := ra) (base := base) (a := a) (b := b)
  have hw : wr .i64 ((i : Int) + 1) = ((i + 1 : Nat) : Int) := by rw [wr_in ⟨by omega, by omega⟩]; omega
  have hc : (i : Int) + 1 = ((i + 1 : Nat) : Int) := by omega
  have d0 : decide (0 ≤ (i : Int)) = true := decide_eq_true (by omega)
  have key : (i : Int) < a.length → (i : Int) < 200 → ∀ S : Sv, S.ok i p k = true → okG a ⟨⟨a.length, k, p, i⟩, S, wr .i64 (b.getD (0 + Int.toNat (i : Int)) 0), Int.tmod (a.getD (0 + Int.toNat (i : Int)) 0) 8⟩ = true ∧ 0 + Int.toNat (i : Int) < a.length := fun h1 h2 S hS => by
    rw [toNat_nat]
    have hlt : i < a.length := by omega
    have hv : 0 ≤ b.getD i 0 ∧ b.getD i 0 < 256 := by rw [getD_at (by rw [hb]; exact hlt)]; exact hb8 _ (List.getElem_mem _)
    have hw' : wr .i64 (b.getD i 0) = b.getD i 0 := wr_in ⟨by omega, by omega⟩
    refine ⟨?_, hlt⟩
    rw [hw']
    simp only [okG, Bool.and_eq_true, decide_eq_true_eq]
    exact ⟨hS, by omega, h2, h1, trivial, hv.1, hv.2⟩
  cases s with
  | s0 k' m =>
    refine takes_of_treeQ hE (W_ok hS noL_ok) hT (f := 4) (.inr (by kernel_rfl)) (hp_below _) (ol_s0 a b a.length k p i k' m) ?_
    simp only [TreeQ.holds, decide_eq_true_eq, decide_eq_false_iff_not]
    refine ⟨fun k1 => ⟨fun k2 => ?_, fun _ => .inr rfl⟩, fun _ => .inr rfl⟩
    obtain ⟨g1, g2⟩ := key k1 k2 _ h
    simp only [decide_true, Bool.and_self, Bool.and_true, Bool.true_and, true_and, qSame_self, cap_self, Bool.not_true, Bool.false_eq_true, Bool.true_eq_false, false_implies, true_implies, forall_const, and_true, g1, g2, d0, k1, k2, hw]
    refine ⟨fun y hy => ?_, fun y hy => ?_, fun y hy => ?_, fun y hy => ?_, fun y hy => ?_⟩
    · simp only [hy, true_and, forall_const, true_implies]; exact .inl ⟨by omega, y.p, .s0 y.k y.m, by rw [← hc]; exact hy, rfl⟩
    · simp only [hy, true_and, forall_const, true_implies]; exact .inl ⟨by omega, y.p, .s1 y.x, by rw [← hc]; exact hy, rfl⟩
    · simp only [hy, true_and, forall_const, true_implies]; exact .inl ⟨by omega, y.p, .s2 y.x y.es, by rw [← hc]; exact hy, rfl⟩
    · simp only [hy, true_and, forall_const, true_implies]; exact .inl ⟨by omega, y.p, .s3 y.x y.es y.an y.rs, by rw [← hc]; exact hy, rfl⟩
    · simp only [hy, true_and, forall_const, true_implies]; exact .inl ⟨by omega, y.p, .s4 y.x y.es y.an y.rs y.tk y.f y.q, by rw [← hc]; exact hy, rfl⟩
  | s1 x =>
    refine takes_of_treeQ hE (W_ok hS noL_ok) hT (f := 4) (.inr (by kernel_rfl)) (hp_below _) (ol_s1 a b a.length k p i x) ?_
    simp only [TreeQ.holds, decide_eq_true_eq, decide_eq_false_iff_not]
    refine ⟨fun k1 => ⟨fun k2 => ?_, fun _ => .inr rfl⟩, fun _ => .inr rfl⟩
    obtain ⟨g1, g2⟩ := key k1 k2 _ h
    simp only [decide_true, Bool.and_self, Bool.and_true, Bool.true_and, true_and, qSame_self, cap_self, Bool.not_true, Bool.false_eq_true, Bool.true_eq_false, false_implies, true_implies, forall_const, and_true, g1, g2, d0, k1, k2, hw]
    refine ⟨fun y hy => ?_, fun y hy => ?_, fun y hy => ?_, fun y hy => ?_, fun y hy => ?_⟩
    · simp only [hy, true_and, forall_const, true_implies]; exact .inl ⟨by omega, y.p, .s0 y.k y.m, by rw [← hc]; exact hy, rfl⟩
    · simp only [hy, true_and, forall_const, true_implies]; exact .inl ⟨by omega, y.p, .s1 y.x, by rw [← hc]; exact hy, rfl⟩
    · simp only [hy, true_and, forall_const, true_implies]; exact .inl ⟨by omega, y.p, .s2 y.x y.es, by rw [← hc]; exact hy, rfl⟩
    · simp only [hy, true_and, forall_const, true_implies]; exact .inl ⟨by omega, y.p, .s3 y.x y.es y.an y.rs, by rw [← hc]; exact hy, rfl⟩
    · simp only [hy, true_and, forall_const, true_implies]; exact .inl ⟨by omega, y.p, .s4 y.x y.es y.an y.rs y.tk y.f y.q, by rw [← hc]; exact hy, rfl⟩
  | s2 x es =>
    refine takes_of_treeQ hE (W_ok hS noL_ok) hT (f := 4) (.inr (by kernel_rfl)) (hp_below _) (ol_s2 a b a.length k p i x es) ?_
    simp only [TreeQ.holds, decide_eq_true_eq, decide_eq_false_iff_not]
    refine ⟨fun k1 => ⟨fun k2 => ?_, fun _ => .inr rfl⟩, fun _ => .inr rfl⟩
    obtain ⟨g1, g2⟩ := key k1 k2 _ h
    simp only [decide_true, Bool.and_self, Bool.and_true, Bool.true_and, true_and, qSame_self, cap_self, Bool.not_true, Bool.false_eq_true, Bool.true_eq_false, false_implies, true_implies, forall_const, and_true, g1, g2, d0, k1, k2, hw]
    refine ⟨fun y hy => ?_, fun y hy => ?_, fun y hy => ?_, fun y hy => ?_, fun y hy => ?_⟩
    · simp only [hy, true_and, forall_const, true_implies]; exact .inl ⟨by omega, y.p, .s0 y.k y.m, by rw [← hc]; exact hy, rfl⟩
    · simp only [hy, true_and, forall_const, true_implies]; exact .inl ⟨by omega, y.p, .s1 y.x, by rw [← hc]; exact hy, rfl⟩
    · simp only [hy, true_and, forall_const, true_implies]; exact .inl ⟨by omega, y.p, .s2 y.x y.es, by rw [← hc]; exact hy, rfl⟩
    · simp only [hy, true_and, forall_const, true_implies]; exact .inl ⟨by omega, y.p, .s3 y.x y.es y.an y.rs, by rw [← hc]; exact hy, rfl⟩
    · simp only [hy, true_and, forall_const, true_implies]; exact .inl ⟨by omega, y.p, .s4 y.x y.es y.an y.rs y.tk y.f y.q, by rw [← hc]; exact hy, rfl⟩
  | s3 x es an rs =>
    refine takes_of_treeQ hE (W_ok hS noL_ok) hT (f := 4) (.inr (by kernel_rfl)) (hp_below _) (ol_s3 a b a.length k p i x es an rs) ?_
    simp only [TreeQ.holds, decide_eq_true_eq, decide_eq_false_iff_not]
    refine ⟨fun k1 => ⟨fun k2 => ?_, fun _ => .inr rfl⟩, fun _ => .inr rfl⟩
    obtain ⟨g1, g2⟩ := key k1 k2 _ h
    simp only [decide_true, Bool.and_self, Bool.and_true, Bool.true_and, true_and, qSame_self, cap_self, Bool.not_true, Bool.false_eq_true, Bool.true_eq_false, false_implies, true_implies, forall_const, and_true, g1, g2, d0, k1, k2, hw]
    refine ⟨fun y hy => ?_, fun y hy => ?_, fun y hy => ?_, fun y hy => ?_, fun y hy => ?_⟩
    · simp only [hy, true_and, forall_const, true_implies]; exact .inl ⟨by omega, y.p, .s0 y.k y.m, by rw [← hc]; exact hy, rfl⟩
    · simp only [hy, true_and, forall_const, true_implies]; exact .inl ⟨by omega, y.p, .s1 y.x, by rw [← hc]; exact hy, rfl⟩
    · simp only [hy, true_and, forall_const, true_implies]; exact .inl ⟨by omega, y.p, .s2 y.x y.es, by rw [← hc]; exact hy, rfl⟩
    · simp only [hy, true_and, forall_const, true_implies]; exact .inl ⟨by omega, y.p, .s3 y.x y.es y.an y.rs, by rw [← hc]; exact hy, rfl⟩
    · simp only [hy, true_and, forall_const, true_implies]; exact .inl ⟨by omega, y.p, .s4 y.x y.es y.an y.rs y.tk y.f y.q, by rw [← hc]; exact hy, rfl⟩
  | s4 x es an rs tk f q =>
    refine takes_of_treeQ hE (W_ok hS noL_ok) hT (f := 4) (.inr (by kernel_rfl)) (hp_below _) (ol_s4 a b a.length k p i x es an rs tk f q) ?_
    simp only [TreeQ.holds, decide_eq_true_eq, decide_eq_false_iff_not]
    refine ⟨fun k1 => ⟨fun k2 => ?_, fun _ => .inr rfl⟩, fun _ => .inr rfl⟩
    obtain ⟨g1, g2⟩ := key k1 k2 _ h
    simp only [decide_true, Bool.and_self, Bool.and_true, Bool.true_and, true_and, qSame_self, cap_self, Bool.not_true, Bool.false_eq_true, Bool.true_eq_false, false_implies, true_implies, forall_const, and_true, g1, g2, d0, k1, k2, hw]
    refine ⟨fun y hy => ?_, fun y hy => ?_, fun y hy => ?_, fun y hy => ?_, fun y hy => ?_⟩
    · simp only [hy, true_and, forall_const, true_implies]; exact .inl ⟨by omega, y.p, .s0 y.k y.m, by rw [← hc]; exact hy, rfl⟩
    · simp only [hy, true_and, forall_const, true_implies]; exact .inl ⟨by omega, y.p, .s1 y.x, by rw [← hc]; exact hy, rfl⟩
    · simp only [hy, true_and, forall_const, true_implies]; exact .inl ⟨by omega, y.p, .s2 y.x y.es, by rw [← hc]; exact hy, rfl⟩
    · simp only [hy, true_and, forall_const, true_implies]; exact .inl ⟨by omega, y.p, .s3 y.x y.es y.an y.rs, by rw [← hc]; exact hy, rfl⟩
    · simp only [hy, true_and, forall_const, true_implies]; exact .inl ⟨by omega, y.p, .s4 y.x y.es y.an y.rs y.tk y.f y.q, by rw [← hc]; exact hy, rfl⟩

theorem okV_cases {V : AVal} (h : okV a V = true) : V = .nils ∨ V = .slice (.ro 0 0 0 0) a.length none := by
  unfold okV at h
  split at h
  · exact .inl rfl
  · rename_i n
    simp only [decide_eq_true_eq] at h
    subst h; exact .inr rfl
  · cases h

/-- what an end of a loop is -/
theorem postF {ξ : Type} {e : Nat} {oo : ξ → Int → List (Nat × AVal)} {g : ξ → Int → Fs → Prop} {y : ξ} {z : State} (p : Int) (s : Fs) (h : g y p s) (hz : z = (.exit e, mkT 314 (oo y p), hp 0 s.bs)) : PostL 314 y z (altsF e oo g) := by
  cases s with
  | f0 k m => exact .inl ⟨⟨p, ⟨k, m⟩⟩, h, hz⟩
  | f1 x => exact .inr (.inl ⟨⟨p, ⟨x⟩⟩, h, hz⟩)
  | f3 x an rs => exact .inr (.inr (.inl ⟨⟨p, ⟨x, an, rs⟩⟩, h, hz⟩))
  | f4 x an rs tk f q => exact .inr (.inr (.inr ⟨⟨p, ⟨x, an, rs, tk, f, q⟩⟩, h, hz⟩))

theorem postLo {V : AVal} {k : Int} {z : State} (p : Int) (s : Fs) (h : s.ok 200 p k = true) (hz : z = (.exit 0, mkT 314 (Fo.ins ⟨k, p, 0, .f0 0 0⟩), hp 0 s.bs)) : PostL 314 (⟨V, k⟩ : Lo) z (loD a).alts :=
  postF (y := (⟨V, k⟩ : Lo)) (g := fun y p s => s.ok 200 p y.k = true) (oo := fun y p => Fo.ins ⟨y.k, p, 0, .f0 0 0⟩) p s h hz
theorem postL2 {k p i : Int} {s0 : Fs} {z : State} (s : Fs) (h : Ytoahbijmemgghaa.Ends k p s) (hz : z = (.exit 3, mkT 314 (endIns p), hp 0 s.bs)) : PostL 314 (⟨k, p, i, s0⟩ : Fo) z l2D.alts :=
  postF (y := (⟨k, p, i, s0⟩ : Fo)) (g := fun (y : Fo) (p : Int) (s : Fs) => p = y.p ∧ Ytoahbijmemgghaa.Ends y.k p s) (oo := fun _ p => endIns p) p s ⟨rfl, h⟩ hz

theorem start_ok {k : Int} (hk : newOk k = true) : Sv.ok ((0 : Nat) : Int) 0 k (.s0 k k) = true := by
  obtain ⟨k1, k2⟩ := newK hk
  exact mk0 ⟨hk, Int.le_refl 0, by decide, rfl, by show ((0 : Nat) : Int) ≤ k; omega, rfl, Int.le_refl 0, Int.le_refl 0, Int.le_refl 0, Int.le_refl 0, by omega, fun e he => by simp at he, fun e he => by simp at he, fun e he => by simp at he, rfl, by decide, by decide, rfl, by omega, by omega⟩

theorem lo_takes (hb : b.length = a.length) (ha8 : ∀ x ∈ a, 0 ≤ x ∧ x < 256) (hb8 : ∀ x ∈ b, 0 ≤ x ∧ x < 256) (y : Lo) (h : (loD a).pre y = true) :
    Takes Try.prog (tabC a b) ra base 0 (.loop (codeOf 4 (false :: pOL))) (mkT 314 ((loD a).ins y)) (hp 0 ((loD a).blks y)) fun z => PostL 314 y z (loD a).alts := by
  have hE := tabC_plain a b
  have hS := S2_ok (E := tabC a b) (ra := ra) (base := base) hE
  obtain ⟨V, k⟩ := y
  simp only [loD, Bool.and_eq_true] at h
  obtain ⟨hV, hk⟩ := h
  rcases okV_cases hV with rfl | rfl
  · refine takes_loop (fun m ts h => m = 1 ∧ ts = mkT 314 (loIns .nils k 0 0 .nils) ∧ h = hp 0 [zBlk k 0 k, farB 0 0 .nils .nils]) (fun ts h => by rintro ⟨h, _⟩; omega) (fun m ts h' => ?_) (j := 1) ⟨rfl, rfl, rfl⟩
    rintro ⟨_, rfl, rfl⟩
    refine takes_of_treeQ hE (W_ok hS noL_ok) noT_ok (f := 4) (.inr (by kernel_rfl)) (hp_below _) (ol_nil a b k) ?_
    exact postLo (a := a) 0 (.f0 k k) (fs_ok (s := .s0 k k) (start_ok hk) (by decide)) rfl
  · refine takes_loop (fun m ts h => ∃ (i : Nat) (p : Int) (s : Sv), i ≤ 200 ∧ m = 200 - i + 1 ∧ s.ok i p k = true ∧ ts = mkT 314 (svAt a.length k p i s) ∧ h = hp 0 s.bs) (fun ts h => by rintro ⟨i, p, s, _, h, _⟩; omega) (fun m ts h' => ?_) (j := 201) ⟨0, 0, .s0 k k, Nat.zero_le _, rfl, start_ok hk, rfl, rfl⟩
    rintro ⟨i, p, s, k1, k2, k3, rfl, rfl⟩
    refine (order_step hb ha8 hb8 k3 k1).mono ?_
    rintro z (⟨q1, p', s', q2, rfl⟩ | rfl)
    · exact ⟨i + 1, p', s', by omega, by omega, q2, rfl, rfl⟩
    · exact postLo (a := a) p s.fs (fs_ok k3 (by omega)) rfl

/-! The second loop. -/
theorem nSeq_zero {n : Nat} (hn : n ≠ 0) (b m : Int) : nSeq n b m 0 = b := by
  rw [nSeq, if_neg hn, atN]
  have : Int.tmod (if (0 : Int) < 0 then 0 else 0) (mayN n b m) = 0 := by simp
  rw [this, Int.add_zero]

theorem uf1 {i p k : Int} {x : Sd} (h : Fs.ok i p k (.f1 x) = true) : x.k = k ∧ okSd x = true ∧ Hold i p k x.b x.m x.n x.l [] [] [] [] 0 0 := by
  simp only [Fs.ok, Bool.and_eq_true, decide_eq_true_eq, inv_iff] at h; exact h
theorem uf0 {i p k : Int} {k' m : Int} (h : Fs.ok i p k (.f0 k' m) = true) : k' = k ∧ Hold i p k 0 m 0 [] [] [] [] [] 0 0 := by
  simp only [Fs.ok, Bool.and_eq_true, decide_eq_true_eq, inv_iff] at h; exact h
theorem uf3 {i p k : Int} {x : Sd} {an rs : List Int} (h : Fs.ok i p k (.f3 x an rs) = true) : x.k = k ∧ okSd x = true ∧ Hold i p k x.b x.m x.n x.l [] an rs [] 0 0 := by
  simp only [Fs.ok, Bool.and_eq_true, decide_eq_true_eq, inv_iff] at h; exact h
theorem uf4 {i p k : Int} {x : Sd} {an rs tk : List Int} {f q : Int} (h : Fs.ok i p k (.f4 x an rs tk f q) = true) : x.k = k ∧ okSd x = true ∧ Hold i p k x.b x.m x.n x.l [] an rs tk f q := by
  simp only [Fs.ok, Bool.and_eq_true, decide_eq_true_eq, inv_iff] at h; exact h
theorem mf4 {i p k : Int} {x : Sd} {an rs tk : List Int} {f q : Int} (hk : x.k = k) (hx : okSd x = true) (H : Hold i p k x.b x.m x.n x.l [] an rs tk f q) : Fs.ok i p k (.f4 x an rs tk f q) = true := by
  rw [Fs.ok, inv_iff.2 H, hx, decide_eq_true hk]; rfl

theorem Hold.to {i p k b' m : Int} {n : Nat} {l an rs tk : List Int} {f q : Int} (h : Hold i p k b' m n l [] an rs tk f q) {i' : Int} (hi : i ≤ i') (hi' : i' ≤ 300) : Hold i' p k b' m n l [] an rs tk f q :=
  { h with pi := by have := h.pi; omega, i2 := hi', ai := by have := h.ai; omega, ei := by show (0 : Int) ≤ i'; have := h.ei; simp only [List.length_nil] at this; omega }
theorem fs_to {i p k : Int} {s : Fs} (h : s.ok i p k = true) {i' : Int} (hi : i ≤ i') (hi' : i' ≤ 300) : s.ok i' p k = true := by
  cases s with
  | f0 k' m => obtain ⟨h1, H⟩ := uf0 h; rw [Fs.ok, inv_iff.2 (H.to hi hi'), decide_eq_true h1]; rfl
  | f1 x => obtain ⟨h1, h2, H⟩ := uf1 h; rw [Fs.ok, inv_iff.2 (H.to hi hi'), h2, decide_eq_true h1]; rfl
  | f3 x an rs => obtain ⟨h1, h2, H⟩ := uf3 h; rw [Fs.ok, inv_iff.2 (H.to hi hi'), h2, decide_eq_true h1]; rfl
  | f4 x an rs tk f q => obtain ⟨h1, h2, H⟩ := uf4 h; rw [Fs.ok, inv_iff.2 (H.to hi hi'), h2, decide_eq_true h1]; rfl

def foAt (k p t : Int) : List (Nat × AVal) := Fo.ins ⟨k, p, t, .f0 0 0⟩ ++ [(19, .int .i64 t)]

theorem l2_step {k p : Int} {t : Nat} {i : Int} {s : Fs} (h : s.ok i p k = true) (hi : i < 300) (ht : t < 40) :
    Takes Try.prog (tabC a b) ra base 0 (codeOf 4 (false :: pL2)) (mkT 314 (foAt k p t)) (hp 0 s.bs) fun z =>
      (∃ s' : Fs, s'.ok (i + 1) p k = true ∧ s'.n < s.n ∧ z = (.normal, mkT 314 (foAt k p ((t + 1 : Nat) : Int)), hp 0 s'.bs)) ∨ (s.n = 0 ∧ z = (.exit 3, mkT 314 (endIns p), hp 0 s.bs)) := by
  have hE := tabC_plain a b
  have hS := S2_ok (E := tabC a b) (ra := ra) (base := base) hE
  have hw : wr .i64 ((t : Int) + 1) = ((t + 1 : Nat) : Int) := by rw [wr_in ⟨by omega, by omega⟩]; omega
  have dt : decide ((t : Int) < 40) = true := decide_eq_true (by omega)
  cases s with
  | f0 k' m =>
    obtain ⟨rfl, H⟩ := uf0 h
    obtain ⟨k1, k2⟩ := newK H.hk
    have o1 : Sx.ok (.z k' 0 m) = true := okN_iff.2 ⟨by decide, by omega, by omega, by decide, by decide, H.m0, by have := H.mm; omega⟩
    refine takes_of_treeQ hE (W_ok hS noL_ok) noT_ok (f := 4) (.inr (by kernel_rfl)) (hp_below _) (l2_f0 a b k' p t k' m) ?_
    simp only [TreeQ.holds, decide_true, Bool.and_self, Bool.and_true, Bool.true_and, true_and, qSame_self, cap_self, Bool.not_true, Bool.false_eq_true, Bool.true_eq_false, false_implies, true_implies, forall_const, and_true, o1]
    exact .inr ⟨rfl, rfl⟩
  | f1 x =>
    obtain ⟨xk, hx, H⟩ := uf1 h
    obtain ⟨k1, k2⟩ := newK H.hk
    have hbn := H.bn
    have hnk := H.nk
    have hb0 := H.b0
    have hbf := H.bf
    have hfp := H.fp
    have hpi := H.pi
    have hai := H.ai
    have har := H.ar
    have U := (H.to (i' := i + 1) (by omega) (by omega)).empty
    have o1 : Sx.ok (.q x) = true := hx
    refine takes_of_treeQ hE (W_ok hS noL_ok) noT_ok (f := 4) (.inr (by kernel_rfl)) (hp_below _) (l2_f1 a b k p t x) ?_
    by_cases hn : x.n = 0
    · have c2 : decide (0 < ((Sx.n (.q x) : Nat) : Int)) = false := decide_eq_false (by show ¬ (0 < (x.n : Int)); omega)
      simp only [TreeQ.holds, decide_true, Bool.and_self, Bool.and_true, Bool.true_and, true_and, qSame_self, cap_self, Bool.not_true, Bool.false_eq_true, Bool.true_eq_false, false_implies, true_implies, forall_const, and_true, o1, c2]
      exact .inr ⟨hn, rfl⟩
    · have c2 : decide (0 < ((Sx.n (.q x) : Nat) : Int)) = true := decide_eq_true (by show 0 < (x.n : Int); omega)
      have c1 : nIs (Sx.n (.q x)) = true := decide_eq_true hn
      have hT : nTime (Sx.l (.q x)) (Sx.b (.q x)) (Sx.m (.q x)) 0 = x.b := (next_facts H (by omega) 0).1.trans (nSeq_zero hn _ _)
      have hS' : nSeq (Sx.n (.q x)) (Sx.b (.q x)) (Sx.m (.q x)) 0 = x.b := nSeq_zero hn _ _
      have dk : decide (0 < k) = true := decide_eq_true (by omega)
      have ik : i64 k = true := i64_iff.2 ⟨by omega, by omega⟩
      have hb : x.b = 0 := by omega
      have db : decide (x.b = 0) = true := decide_eq_true hb
      have V := (U.take (by omega) (by omega)).ans (by simp only [List.length_nil] at *; omega)
      obtain ⟨b1, b2, b3, b4, b5⟩ := Hold.ack (a := 0 + 1) (r := k) hx xk V ⟨by decide, Int.le_refl _⟩ ⟨by omega, Int.le_refl _⟩
      have b1' : ackE (Sx.n (.q x)) (Sx.k (.q x)) (Sx.b (.q x)) 1 k = 0 := b1
      simp only [TreeQ.holds, decide_true, Bool.and_self, Bool.and_true, Bool.true_and, true_and, qSame_self, cap_self, Bool.not_true, Bool.false_eq_true, Bool.true_eq_false, false_implies, true_implies, forall_const, and_true, o1, c1, c2, dt, hS', hT, db, dk, ik, b1', hw, wrk (t := k - 1) (by omega) (by omega)]
      have e1 := b4.bn
      refine .inl ⟨.f4 (x.ack 1 k) ([] ++ [1]) ([] ++ [k - 1]) [0] 1 1, mf4 b3 b2 b4, ?_, ?_⟩
      · show (x.ack 1 k).n < x.n
        have e2 : (x.ack 1 k).b = maxI x.b 1 := b5
        have e3 : (x.ack 1 k).b + ((x.ack 1 k).n : Int) = p := e1
        rw [maxI] at e2
        split at e2 <;> omega
      · simp only [Fs.bs, len_app, List.nil_append, hb]; rfl
  | f3 x an rs =>
    obtain ⟨xk, hx, H⟩ := uf3 h
    obtain ⟨k1, k2⟩ := newK H.hk
    have hbn := H.bn
    have hnk := H.nk
    have hb0 := H.b0
    have hbf := H.bf
    have hfp := H.fp
    have hpi := H.pi
    have hai := H.ai
    have har := H.ar
    have U := (H.to (i' := i + 1) (by omega) (by omega)).empty
    have o1 : Sx.ok (.q x) = true := hx
    refine takes_of_treeQ hE (W_ok hS noL_ok) noT_ok (f := 4) (.inr (by kernel_rfl)) (hp_below _) (l2_f3 a b k p t x an rs) ?_
    by_cases hn : x.n = 0
    · have c2 : decide (0 < ((Sx.n (.q x) : Nat) : Int)) = false := decide_eq_false (by show ¬ (0 < (x.n : Int)); omega)
      simp only [TreeQ.holds, decide_true, Bool.and_self, Bool.and_true, Bool.true_and, true_and, qSame_self, cap_self, Bool.not_true, Bool.false_eq_true, Bool.true_eq_false, false_implies, true_implies, forall_const, and_true, o1, c2]
      exact .inr ⟨hn, rfl⟩
    · have c2 : decide (0 < ((Sx.n (.q x) : Nat) : Int)) = true := decide_eq_true (by show 0 < (x.n : Int); omega)
      have c1 : nIs (Sx.n (.q x)) = true := decide_eq_true hn
      have hT : nTime (Sx.l (.q x)) (Sx.b (.q x)) (Sx.m (.q x)) 0 = x.b := (next_facts H (by omega) 0).1.trans (nSeq_zero hn _ _)
      have hS' : nSeq (Sx.n (.q x)) (Sx.b (.q x)) (Sx.m (.q x)) 0 = x.b := nSeq_zero hn _ _
      have dk : decide (0 < k) = true := decide_eq_true (by omega)
      have ik : i64 k = true := i64_iff.2 ⟨by omega, by omega⟩
      have l0 : decide ((List.length an + 1) * 16 ≤ 35184372088832) = true := decide_eq_true (by omega)
      have m0 : decide (0 + List.length an ≤ List.length an) = true := decide_eq_true (by omega)
      have hb : x.b = 0 := by omega
      have db : decide (x.b = 0) = true := decide_eq_true hb
      have V := (U.take (by omega) (by omega)).ans (by omega)
      obtain ⟨b1, b2, b3, b4, b5⟩ := Hold.ack (a := 0 + 1) (r := k) hx xk V ⟨by decide, Int.le_refl _⟩ ⟨by omega, Int.le_refl _⟩
      have b1' : ackE (Sx.n (.q x)) (Sx.k (.q x)) (Sx.b (.q x)) 1 k = 0 := b1
      simp only [TreeQ.holds, decide_true, Bool.and_self, Bool.and_true, Bool.true_and, true_and, qSame_self, cap_self, Bool.not_true, Bool.false_eq_true, Bool.true_eq_false, false_implies, true_implies, forall_const, and_true, o1, c1, c2, dt, hS', hT, db, dk, ik, b1', hw, l0, m0, wrk (t := k - 1) (by omega) (by omega)]
      have e1 := b4.bn
      refine .inl ⟨.f4 (x.ack 1 k) (an ++ [1]) (rs ++ [k - 1]) [0] 1 1, mf4 b3 b2 b4, ?_, ?_⟩
      · show (x.ack 1 k).n < x.n
        have e2 : (x.ack 1 k).b = maxI x.b 1 := b5
        have e3 : (x.ack 1 k).b + ((x.ack 1 k).n : Int) = p := e1
        rw [maxI] at e2
        split at e2 <;> omega
      · simp only [Fs.bs, len_app, List.nil_append, hb, ← anB_app H.ar]; rfl
  | f4 x an rs tk f q =>
    obtain ⟨xk, hx, H⟩ := uf4 h
    obtain ⟨k1, k2⟩ := newK H.hk
    have hbn := H.bn
    have hnk := H.nk
    have hb0 := H.b0
    have hbf := H.bf
    have hfp := H.fp
    have hpi := H.pi
    have hai := H.ai
    have har := H.ar
    have U := (H.to (i' := i + 1) (by omega) (by omega)).empty
    have o1 : Sx.ok (.q x) = true := hx
    refine takes_of_treeQ hE (W_ok hS noL_ok) noT_ok (f := 4) (.inr (by kernel_rfl)) (hp_below _) (l2_f4 a b k p t x an rs tk f q) ?_
    by_cases hn : x.n = 0
    · have c2 : decide (0 < ((Sx.n (.q x) : Nat) : Int)) = false := decide_eq_false (by show ¬ (0 < (x.n : Int)); omega)
      simp only [TreeQ.holds, decide_true, Bool.and_self, Bool.and_true, Bool.true_and, true_and, qSame_self, cap_self, Bool.not_true, Bool.false_eq_true, Bool.true_eq_false, false_implies, true_implies, forall_const, and_true, o1, c2]
      exact .inr ⟨hn, rfl⟩
    · have c2 : decide (0 < ((Sx.n (.q x) : Nat) : Int)) = true := decide_eq_true (by show 0 < (x.n : Int); omega)
      have c1 : nIs (Sx.n (.q x)) = true := decide_eq_true hn
      have hT : nTime (Sx.l (.q x)) (Sx.b (.q x)) (Sx.m (.q x)) 0 = x.b := (next_facts H (by omega) 0).1.trans (nSeq_zero hn _ _)
      have hS' : nSeq (Sx.n (.q x)) (Sx.b (.q x)) (Sx.m (.q x)) 0 = x.b := nSeq_zero hn _ _
      have dk : decide (0 < k) = true := decide_eq_true (by omega)
      have ik : i64 k = true := i64_iff.2 ⟨by omega, by omega⟩
      have htl : tk.length = f.toNat := by rw [H.htk, rng_len]
      have l0 : decide ((List.length tk + 1) * 8 ≤ 35184372088832) = true := decide_eq_true (by omega)
      have m0 : decide (0 + List.length tk ≤ List.length tk) = true := decide_eq_true (by omega)
      have l1 : decide ((List.length an + 1) * 16 ≤ 35184372088832) = true := decide_eq_true (by omega)
      have m1 : decide (0 + List.length an ≤ List.length an) = true := decide_eq_true (by omega)
      have f0 : 0 ≤ f := by omega
      have uf : u64 f = true := u64_iff.2 ⟨by omega, by omega⟩
      have uf1 : u64 (f + 1) = true := u64_iff.2 ⟨by omega, by omega⟩
      have wf : wr .u64 (f + 1) = f + 1 := wr_u64 ⟨by omega, by omega⟩
      by_cases hb : x.b = f
      · have db : decide (x.b = f) = true := decide_eq_true hb
        have V := (U.take (by omega) (by omega)).ans (by omega)
        obtain ⟨b1, b2, b3, b4, b5⟩ := Hold.ack (a := f + 1) (r := k) hx xk V ⟨by omega, Int.le_refl _⟩ ⟨by omega, Int.le_refl _⟩
        have b1' : ackE (Sx.n (.q x)) (Sx.k (.q x)) (Sx.b (.q x)) (f + 1) k = 0 := b1
        simp only [TreeQ.holds, decide_true, Bool.and_self, Bool.and_true, Bool.true_and, true_and, qSame_self, cap_self, Bool.not_true, Bool.false_eq_true, Bool.true_eq_false, false_implies, true_implies, forall_const, and_true, o1, c1, c2, dt, hS', hT, db, dk, ik, wf, uf1, b1', hw, l0, m0, l1, m1, wrk (t := k - 1) (by omega) (by omega)]
        have e1 := b4.bn
        refine .inl ⟨.f4 (x.ack (f + 1) k) (an ++ [f + 1]) (rs ++ [k - 1]) (tk ++ [f]) (f + 1) 1, mf4 b3 b2 b4, ?_, ?_⟩
        · show (x.ack (f + 1) k).n < x.n
          rw [maxI] at b5
          split at b5 <;> omega
        · simp only [Fs.bs, len_app, hb, ← tkB_app, ← anB_app H.ar]; rfl
      · have db : decide (x.b = f) = false := decide_eq_false hb
        have V := U.ans (by omega)
        obtain ⟨b1, b2, b3, b4, b5⟩ := Hold.ack (a := f) (r := k) hx xk V ⟨by omega, Int.le_refl _⟩ ⟨by omega, Int.le_refl _⟩
        have b1' : ackE (Sx.n (.q x)) (Sx.k (.q x)) (Sx.b (.q x)) f k = 0 := b1
        simp only [TreeQ.holds, decide_true, Bool.and_self, Bool.and_true, Bool.true_and, true_and, qSame_self, cap_self, Bool.not_true, Bool.false_eq_true, Bool.true_eq_false, false_implies, true_implies, forall_const, and_true, o1, c1, c2, dt, hS', hT, db, dk, ik, uf, b1', hw, l0, m0, l1, m1, wrk (t := k - 0) (by omega) (by omega)]
        have e1 := b4.bn
        refine .inl ⟨.f4 (x.ack f k) (an ++ [f]) (rs ++ [k - 0]) tk f 0, mf4 b3 b2 b4, ?_, ?_⟩
        · show (x.ack f k).n < x.n
          rw [maxI] at b5
          split at b5 <;> omega
        · simp only [Fs.bs, len_app, ← tkB_app, ← anB_app H.ar]; rfl

theorem fs_n {i p k : Int} {s : Fs} (h : s.ok i p k = true) : s.n ≤ 16 := by
  cases s with
  | f0 k' m => exact Nat.zero_le _
  | f1 x => obtain ⟨_, _, H⟩ := uf1 h; have := H.nk; have := newK H.hk; show x.n ≤ 16; omega
  | f3 x an rs => obtain ⟨_, _, H⟩ := uf3 h; have := H.nk; have := newK H.hk; show x.n ≤ 16; omega
  | f4 x an rs tk f q => obtain ⟨_, _, H⟩ := uf4 h; have := H.nk; have := newK H.hk; show x.n ≤ 16; omega

theorem l2_takes (y : Fo) (h : l2D.pre y = true) : Takes Try.prog (tabC a b) ra base 0 (.loop (codeOf 4 (false :: pL2))) (mkT 314 (l2D.ins y)) (hp 0 (l2D.blks y)) fun z => PostL 314 y z l2D.alts := by
  obtain ⟨k, p, i, s⟩ := y
  have h : s.ok 200 p k = true := h
  refine takes_loop (fun m ts h => ∃ (t : Nat) (s' : Fs), s'.n + t ≤ 16 ∧ s'.n < m ∧ s'.ok (200 + (t : Int)) p k = true ∧ ts = mkT 314 (foAt k p t) ∧ h = hp 0 s'.bs) (fun ts h => by rintro ⟨t, s', _, h, _⟩; omega) (fun m ts h' => ?_) (j := s.n + 1) ⟨0, s, by have := fs_n h; omega, Nat.lt_succ_self _, h, rfl, rfl⟩
  rintro ⟨t, s', k1, k2, k3, rfl, rfl⟩
  refine (l2_step k3 (by omega) (by omega)).mono ?_
  rintro z (⟨s'', q1, q2, rfl⟩ | ⟨q1, rfl⟩)
  · exact ⟨t + 1, s'', by omega, by omega, fs_to q1 (by omega) (by omega), rfl, rfl⟩
  · exact postL2 s' ⟨fs_to k3 (by omega) (by omega), q1⟩ rfl

/-! The third loop. -/
theorem l3_takes (y : Tk) (h : l3D.pre y = true) : Takes Try.prog (tabC a b) ra base 0 (.loop (codeOf 4 (false :: pL3))) (mkT 314 (l3D.ins y)) (hp 0 (l3D.blks y)) fun z => PostL 314 y z l3D.alts := by
  have hE := tabC_plain a b
  have hS := S2_ok (E := tabC a b) (ra := ra) (base := base) hE
  obtain ⟨p, f, q, T, A⟩ := y
  cases T with
  | none =>
    cases A with
    | none =>
      simp only [l3D, decide_eq_true_eq] at h
      subst h
      refine takes_loop (fun m ts h => m = 1 ∧ ts = mkT 314 (l3D.ins ⟨0, f, q, none, none⟩) ∧ h = hp 0 (Tk.bs ⟨0, f, q, none, none⟩)) (fun ts h => by rintro ⟨h, _⟩; omega) (fun m ts h' => ?_) (j := 1) ⟨rfl, rfl, rfl⟩
      rintro ⟨_, rfl, rfl⟩
      exact takes_of_treeQ hE (W_ok hS noL_ok) noT_ok (f := 4) (.inr (by kernel_rfl)) (hp_below _) (l3_n a b f q) ⟨(), trivial, rfl⟩
    | some x =>
      obtain ⟨an, rs⟩ := x
      simp only [l3D, decide_eq_true_eq] at h
      subst h
      refine takes_loop (fun m ts h => m = 1 ∧ ts = mkT 314 (l3D.ins ⟨0, f, q, none, some (an, rs)⟩) ∧ h = hp 0 (Tk.bs ⟨0, f, q, none, some (an, rs)⟩)) (fun ts h => by rintro ⟨h, _⟩; omega) (fun m ts h' => ?_) (j := 1) ⟨rfl, rfl, rfl⟩
      rintro ⟨_, rfl, rfl⟩
      exact takes_of_treeQ hE (W_ok hS noL_ok) noT_ok (f := 4) (.inr (by kernel_rfl)) (hp_below _) (l3_a a b f q an rs) ⟨(), trivial, rfl⟩
  | some tk =>
    cases A with
    | none => cases h
    | some x =>
      obtain ⟨an, rs⟩ := x
      simp only [l3D, Bool.and_eq_true, decide_eq_true_eq] at h
      obtain ⟨p0, p1, htk⟩ := h
      have hl : tk.length = p.toNat := by rw [htk, rng_len]
      refine takes_loop (fun m ts h => ∃ t : Nat, (t : Int) ≤ p ∧ m = p.toNat - t + 1 ∧ ts = mkT 314 (Tk.ins ⟨p, f, q, some tk, some (an, rs)⟩ ++ [(23, .int .i64 t)]) ∧ h = hp 0 (Tk.bs ⟨p, f, q, some tk, some (an, rs)⟩)) (fun ts h => by rintro ⟨t, _, h, _⟩; omega) (fun m ts h' => ?_) (j := p.toNat + 1) ⟨0, by omega, by omega, rfl, rfl⟩
      rintro ⟨t, k1, k2, rfl, rfl⟩
      have hw : wr .i64 ((t : Int) + 1) = ((t + 1 : Nat) : Int) := by rw [wr_in ⟨by omega, by omega⟩]; omega
      refine takes_of_treeQ hE (W_ok hS noL_ok) noT_ok (f := 4) (.inr (by kernel_rfl)) (hp_below _) (l3_t a b p t f q tk an rs) ?_
      simp only [TreeQ.holds, decide_eq_true_eq, decide_eq_false_iff_not, Bool.and_eq_true, hw, Bool.not_eq_true', Bool.not_eq_false']
      refine ⟨fun g => ?_, fun _ => ⟨(), trivial, rfl⟩⟩
      have g2 : tk.getD (0 + Int.toNat (t : Int)) 0 = t := by
        rw [toNat_nat, htk, rng, getD_map (by simp; omega)]; simp
      refine ⟨by omega, by omega, fun g3 => absurd g2 g3, fun _ => ⟨t + 1, by omega, by omega, rfl, rfl⟩⟩

theorem T4_ok (hb : b.length = a.length) (ha8 : ∀ x ∈ a, 0 ≤ x ∧ x < 256) (hb8 : ∀ x ∈ b, 0 ≤ x ∧ x < 256) : ToldsOK Try.prog (tabC a b) ra base 0 (T4 a) :=
  sumT_ok (sumT_ok (sumT_ok noT_ok rfl (toldR_ok (c := .loop (codeOf 4 (false :: pL3))) (by kernel_rfl) l3_takes)) rfl (toldR_ok (c := .loop (codeOf 4 (false :: pL2))) (by kernel_rfl) l2_takes)) rfl (toldR_ok (c := .loop (codeOf 4 (false :: pOL))) (by kernel_rfl) (lo_takes hb ha8 hb8))

/-! The ends. -/
theorem ends0 {k p : Int} {c m : Int} (h : Ytoahbijmemgghaa.Ends k p (.f0 c m)) : Sx.ok (.z c 0 m) = true ∧ p = 0 := by
  obtain ⟨rfl, H⟩ := uf0 h.1
  obtain ⟨k1, k2⟩ := newK H.hk
  have := H.bn
  exact ⟨okN_iff.2 ⟨by decide, by omega, by omega, by decide, by decide, H.m0, by have := H.mm; omega⟩, by omega⟩
theorem ends1 {k p : Int} {x : Sd} (h : Ytoahbijmemgghaa.Ends k p (.f1 x)) : Sx.ok (.q x) = true ∧ decide (0 < ((Sx.n (.q x) : Nat) : Int)) = false ∧ p = 0 := by
  obtain ⟨h1, h2, H⟩ := uf1 h.1
  have hn : x.n = 0 := h.2
  have a1 := H.bn
  have a2 := H.bf
  have a3 := H.b0
  exact ⟨h2, decide_eq_false (by show ¬ (0 < (x.n : Int)); omega), by omega⟩
theorem ends3 {k p : Int} {x : Sd} {an rs : List Int} (h : Ytoahbijmemgghaa.Ends k p (.f3 x an rs)) : Sx.ok (.q x) = true ∧ decide (0 < ((Sx.n (.q x) : Nat) : Int)) = false ∧ p = 0 := by
  obtain ⟨h1, h2, H⟩ := uf3 h.1
  have hn : x.n = 0 := h.2
  have a1 := H.bn
  have a2 := H.bf
  have a3 := H.b0
  exact ⟨h2, decide_eq_false (by show ¬ (0 < (x.n : Int)); omega), by omega⟩
theorem ends4 {k p : Int} {x : Sd} {an rs tk : List Int} {f q : Int} (h : Ytoahbijmemgghaa.Ends k p (.f4 x an rs tk f q)) : Sx.ok (.q x) = true ∧ decide (0 < ((Sx.n (.q x) : Nat) : Int)) = false ∧ (tk.length : Int) = p ∧ decide (0 ≤ p) = true ∧ decide (p ≤ 1000) = true ∧ decide (tk = rng p.toNat) = true := by
  obtain ⟨h1, h2, H⟩ := uf4 h.1
  have hn : x.n = 0 := h.2
  have a1 := H.bn
  have a2 := H.bf
  have a3 := H.b0
  have a4 := H.fp
  have a5 := H.pi
  have hf : f = p := by omega
  have ht := H.htk
  rw [hf] at ht
  exact ⟨h2, decide_eq_false (by show ¬ (0 < (x.n : Int)); omega), by rw [ht, rng_len]; omega, decide_eq_true (by omega), decide_eq_true (by omega), decide_eq_true ht⟩

theorem order_gives (hb : b.length = a.length) (ha8 : ∀ x ∈ a, 0 ≤ x ∧ x < 256) (hb8 : ∀ x ∈ b, 0 ≤ x ∧ x < 256) {s : Int} (hs : 0 ≤ s ∧ s < 256) {V : AVal} (hV : okV a V = true) :
    Gives Try.prog (tabC a b) ra base 0 4 [.int .u8 s, V] (hp 0 []) fun v _ => v = .bool true := by
  have hE := tabC_plain a b
  have hS := S2_ok (E := tabC a b) (ra := ra) (base := base) hE
  have hT := T4_ok (ra := ra) (base := base) hb ha8 hb8
  have k1 := Int.tmod_nonneg (a := s) 16 hs.1
  have k2 := Int.tmod_lt_of_pos s (show (0 : Int) < 16 by decide)
  have w1 : wr .i64 (Int.tmod s 16) = Int.tmod s 16 := wr_in ⟨by omega, by omega⟩
  obtain ⟨K, hK⟩ : ∃ K, K = 1 + Int.tmod s 16 := ⟨_, rfl⟩
  have w2 : wr .i64 (1 + Int.tmod s 16) = K := by rw [hK]; exact wr_in ⟨by omega, by omega⟩
  have hk : newOk K = true := by simp only [newOk, Bool.and_eq_true, decide_eq_true_eq]; omega
  rcases okV_cases hV with rfl | rfl
  · refine gives_of_treeQ hE (W_ok hS noL_ok) hT (hp_below _) (order_call0 a b s ) ?_
    simp only [w1, w2, TreeQ.holds, decide_true, Bool.and_self, Bool.and_true, Bool.true_and, true_and, qSame_self, cap_self, Bool.not_true, Bool.false_eq_true, Bool.true_eq_false, false_implies, true_implies, forall_const, and_true, hk, hV]
    refine ⟨fun y h => ⟨h, ?_⟩, fun y h => ⟨h, ?_⟩, fun y h => ⟨h, ?_⟩, fun y h => ⟨h, ?_⟩⟩
    all_goals
      refine ⟨fun y4 h4 => ?_, fun y4 h4 => ?_, fun y4 h4 => ?_, fun y4 h4 => ?_⟩
      · obtain ⟨z1, z2⟩ := ends0 h4.2
        simp only [z1, z2, decide_true, Bool.and_self, Bool.and_true, Bool.true_and, true_and, qSame_self, cap_self, Bool.not_true, Bool.false_eq_true, Bool.true_eq_false, false_implies, true_implies, forall_const, and_true]
        exact ⟨_, rfl, rfl⟩
      · obtain ⟨z1, z2, z3⟩ := ends1 h4.2
        simp only [z1, z2, z3, decide_true, Bool.and_self, Bool.and_true, Bool.true_and, true_and, qSame_self, cap_self, Bool.not_true, Bool.false_eq_true, Bool.true_eq_false, false_implies, true_implies, forall_const, and_true]
        exact ⟨_, rfl, rfl⟩
      · obtain ⟨z1, z2, z3⟩ := ends3 h4.2
        simp only [z1, z2, z3, decide_true, Bool.and_self, Bool.and_true, Bool.true_and, true_and, qSame_self, cap_self, Bool.not_true, Bool.false_eq_true, Bool.true_eq_false, false_implies, true_implies, forall_const, and_true]
        exact ⟨_, rfl, rfl⟩
      · obtain ⟨z1, z2, z3, z4, z5, z6⟩ := ends4 h4.2
        simp only [z1, z2, z3, z4, z5, z6, decide_true, Bool.and_self, Bool.and_true, Bool.true_and, true_and, qSame_self, cap_self, Bool.not_true, Bool.false_eq_true, Bool.true_eq_false, false_implies, true_implies, forall_const, and_true]
        exact ⟨_, rfl, rfl⟩
  · refine gives_of_treeQ hE (W_ok hS noL_ok) hT (hp_below _) (order_call a b s a.length) ?_
    simp only [w1, w2, TreeQ.holds, decide_true, Bool.and_self, Bool.and_true, Bool.true_and, true_and, qSame_self, cap_self, Bool.not_true, Bool.false_eq_true, Bool.true_eq_false, false_implies, true_implies, forall_const, and_true, hk, hV]
    refine ⟨fun y h => ⟨h, ?_⟩, fun y h => ⟨h, ?_⟩, fun y h => ⟨h, ?_⟩, fun y h => ⟨h, ?_⟩⟩
    all_goals
      refine ⟨fun y4 h4 => ?_, fun y4 h4 => ?_, fun y4 h4 => ?_, fun y4 h4 => ?_⟩
      · obtain ⟨z1, z2⟩ := ends0 h4.2
        simp only [z1, z2, decide_true, Bool.and_self, Bool.and_true, Bool.true_and, true_and, qSame_self, cap_self, Bool.not_true, Bool.false_eq_true, Bool.true_eq_false, false_implies, true_implies, forall_const, and_true]
        exact ⟨_, rfl, rfl⟩
      · obtain ⟨z1, z2, z3⟩ := ends1 h4.2
        simp only [z1, z2, z3, decide_true, Bool.and_self, Bool.and_true, Bool.true_and, true_and, qSame_self, cap_self, Bool.not_true, Bool.false_eq_true, Bool.true_eq_false, false_implies, true_implies, forall_const, and_true]
        exact ⟨_, rfl, rfl⟩
      · obtain ⟨z1, z2, z3⟩ := ends3 h4.2
        simp only [z1, z2, z3, decide_true, Bool.and_self, Bool.and_true, Bool.true_and, true_and, qSame_self, cap_self, Bool.not_true, Bool.false_eq_true, Bool.true_eq_false, false_implies, true_implies, forall_const, and_true]
        exact ⟨_, rfl, rfl⟩
      · obtain ⟨z1, z2, z3, z4, z5, z6⟩ := ends4 h4.2
        simp only [z1, z2, z3, z4, z5, z6, decide_true, Bool.and_self, Bool.and_true, Bool.true_and, true_and, qSame_self, cap_self, Bool.not_true, Bool.false_eq_true, Bool.true_eq_false, false_implies, true_implies, forall_const, and_true]
        exact ⟨_, rfl, rfl⟩
end

end Go.Proofs.Ytoahbijmemgghaa
