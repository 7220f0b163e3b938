/- align: AlignCuts: what may be taken: the loop. -/
import Derived.Test.YtbdjcekekhgnkaaT24m
import Derived.Test.YtbdjcekekhgnkaaP24i
set_option linter.unusedSimpArgs false
namespace Go.Proofs.Ytbdjcekekhgnkaa
open Ab

def myV : List Int → AVal
  | [] => .nils
  | m :: ms => .slice (.own 3 0 0 1) (m :: ms).length none
def myB : List Int → List Blk
  | [] => []
  | m :: ms => [elI (m :: ms)]
noncomputable def myS (y : Md) (ms : List Int) (k : Nat) : List (Nat × AVal) := y.ins ++ [(15, myV ms), (16, .int .i64 (k : Int))]
def myN (T : Tc) (y : Md) (ms : List Int) (k : Nat) : List Int := if may T y k = true then ms ++ [(k : Int)] else ms

section
variable {ra : Nat → Nat → Nat × Nat} {base : Nat}

structure MyF (T : Tc) (y : Md) (k : Nat) : Prop where
  f : y.fs.getD k true = false
  l : y.ls.getD k 0 = (rowAt T k).length
  a0 : 0 ≤ y.a.getD k 0
  a1 : y.a.getD k 0 ≤ (rowAt T k).length
  w : 0 < y.a.getD k 0 → wr .i64 (y.a.getD k 0 - 1) = y.a.getD k 0 - 1
  n : ¬ (k : Int) < y.n → wr .i64 ((k : Int) - y.n) = (k : Int) - y.n
  x : wr .i64 (y.x.l + 1) = y.x.l + 1
  p : (k : Int) < y.n → isB y.x.p k = blkd y.x y.n k
  q : ¬ (k : Int) < y.n → isB y.x.q ((k : Int) - y.n) = blkd y.x y.n k
  s : 0 < y.a.getD k 0 → blkd y.x y.n k = decide ((rowAt T k).getD (y.a.getD k 0 - 1).toNat 0 = y.x.l + 1)
  ok : okAl y.x = true

theorem myF {T : Tc} {y : Md} (hy : okSync T y) {k : Nat} (hk : k < T.F.length) : MyF T y k := by
  obtain ⟨hsh, hs, _⟩ := hy
  obtain ⟨_, r1, r2, r3, r4, r5⟩ := okShape_at hsh hk
  obtain ⟨o1, o2, o3, o4, o5, o6, o7, o8, o9, o10, o11, o12, o13⟩ := hsh
  exact ⟨r1, r2, r4, r5, fun h => wr_in ⟨by omega, by omega⟩, fun h => wr_in ⟨by omega, by omega⟩, wr_in ⟨by omega, by omega⟩,
    fun h => by rw [blkd, if_pos (by omega)], fun h => by rw [blkd, if_neg (by omega)], fun h => hs k hk h, o8⟩

set_option maxRecDepth 8000 in
theorem my_round_nn {T : Tc} (h : Ways T) (y : Md) (hy : okSync T y) (hO : y.O = .nils) {k : Nat} (hk : k ≤ T.F.length) {Q : State → Prop}
    (q1 : k < T.F.length → Q (.normal, mkT 251 (myS y (myN T y [] k) (k + 1)), hp 0 (y.bs ++ myB (myN T y [] k)))) (q2 : k = T.F.length → Q (.exit 8, mkT 251 (y.ins ++ [(15, .nils)]), hp 0 y.bs)) :
    Takes Try.prog (tabF T) ra base 0 (codeOf 4 (false :: pMy)) (mkT 251 (myS y [] k)) (hp 0 y.bs) Q := by
  have hE := tabF_plain T
  have hW := W_ok (E := tabF T) (ra := ra) (base := base) (S6_ok h) noL_ok
  have hsh := hy.1
  have hls : y.ls.length = T.F.length := by rw [hsh.2.1, List.length_map]
  have hal : y.a.length = T.F.length := hsh.2.2.2.1
  have hK : T.F.length ≤ 20 := hsh.2.2.2.2.1
  have hw : wr .i64 ((k : Int) + 1) = ((k + 1 : Nat) : Int) := by rw [wr_in ⟨by omega, by omega⟩]; omega
  have hF := fun hk => myF hy (k := k) hk
  have hm : may T y k = (!(blkd y.x y.n k) && decide (y.a.getD k 0 < (rowAt T k).length)) := rfl
  obtain ⟨n, O, t, x, a, ls, fs, w⟩ := y
  simp only at hls hal hO hF q1 q2 hm ⊢
  subst hO
  refine takes_of_tree hE hW (f := 4) (.inr (by kernel_rfl)) (hp_below _) (my_nn T n t x a ls fs w (k : Int)) ?_
  rcases Nat.lt_or_eq_of_le hk with hk' | hk'
  · obtain ⟨f1, f2, f3, f4, f5, f6, f7, f8, f9, f10, f11⟩ := hF hk'
    simp only at f1 f2 f3 f4 f5 f6 f7 f8 f9 f10 f11
    have hok := f11
    simp only [okAl, Bool.and_eq_true, decide_eq_true_eq] at hok
    obtain ⟨g1, g2, g3, g4, g5, g6⟩ := hok
    have q0 := q1 hk'
    rw [myN, hm] at q0
    have e1 : (k : Int) < (ls.length : Int) := by omega
    have e2 : (k : Int) < (a.length : Int) := by omega
    have e3 : k < ls.length := by omega
    have e4 : k < a.length := by omega
    have e5 : (0 : Int) ≤ (k : Int) := by omega
    cases hbb : blkd x n k
    · by_cases hlt : a.getD k 0 < ((rowAt T k).length : Int)
      · have q' : Q (.normal, mkT 251 (myS ⟨n, .nils, t, x, a, ls, fs, w⟩ [(k : Int)] (k + 1)), hp 0 (Md.bs ⟨n, .nils, t, x, a, ls, fs, w⟩ ++ myB [(k : Int)])) := by
          rw [hbb, decide_eq_true hlt] at q0; exact q0
        by_cases hn : (k : Int) < n
        · have hb := f8 hn
          rw [hbb] at hb
          by_cases h0 : 0 < a.getD k 0
          · have hs := f10 h0
            have hw1 := f5 h0
            have e6 : 0 ≤ a.getD k 0 - 1 := by omega
            have e7 : a.getD k 0 - 1 < ((rowAt T k).length : Int) := by omega
            have e8 : (a.getD k 0 - 1).toNat < (rowAt T k).length := by omega
            rw [hbb] at hs
            (simp only [Tree.holds, Int.toNat_natCast, Nat.zero_add, decide_true, Bool.and_self, Bool.and_true, Bool.true_and, true_and, decide_eq_true_eq, decide_eq_false_iff_not, Bool.and_eq_true, Bool.not_eq_true', Bool.not_eq_false', hw, f1, f2, f7, f11, g1, g2, g3, g4, g5, g6, e1, e2, e3, e4, e5, reduceCtorEq, not_true_eq_false, not_false_eq_true, false_implies, true_implies, forall_const, and_true, true_and])
            simp only [hn, hb, h0, hw1, e6, e7, hlt, f1, f2, f7, not_true_eq_false, not_false_eq_true, true_implies, false_implies, and_true, true_and, reduceCtorEq, implies_true, false_and, Bool.not_false, Bool.not_true]
            (repeat' first | exact q' | exact e8 | omega | (intro hh; first | exact absurd hs hh | exact absurd hh h0 | skip) | constructor)
          · (simp only [Tree.holds, Int.toNat_natCast, Nat.zero_add, decide_true, Bool.and_self, Bool.and_true, Bool.true_and, true_and, decide_eq_true_eq, decide_eq_false_iff_not, Bool.and_eq_true, Bool.not_eq_true', Bool.not_eq_false', hw, f1, f2, f7, f11, g1, g2, g3, g4, g5, g6, e1, e2, e3, e4, e5, reduceCtorEq, not_true_eq_false, not_false_eq_true, false_implies, true_implies, forall_const, and_true, true_and])
            simp only [hn, hb, h0, hlt, f1, f2, f7, not_true_eq_false, not_false_eq_true, true_implies, false_implies, and_true, true_and, reduceCtorEq, implies_true, false_and, Bool.not_false, Bool.not_true]
            (repeat' first | exact q' | omega | (intro hh; first | exact absurd hh h0 | skip) | constructor)
        · have hb := f9 hn
          rw [hbb] at hb
          have hwn := f6 hn
          by_cases h0 : 0 < a.getD k 0
          · have hs := f10 h0
            have hw1 := f5 h0
            have e6 : 0 ≤ a.getD k 0 - 1 := by omega
            have e7 : a.getD k 0 - 1 < ((rowAt T k).length : Int) := by omega
            have e8 : (a.getD k 0 - 1).toNat < (rowAt T k).length := by omega
            rw [hbb] at hs
            (simp only [Tree.holds, Int.toNat_natCast, Nat.zero_add, decide_true, Bool.and_self, Bool.and_true, Bool.true_and, true_and, decide_eq_true_eq, decide_eq_false_iff_not, Bool.and_eq_true, Bool.not_eq_true', Bool.not_eq_false', hw, f1, f2, f7, f11, g1, g2, g3, g4, g5, g6, e1, e2, e3, e4, e5, reduceCtorEq, not_true_eq_false, not_false_eq_true, false_implies, true_implies, forall_const, and_true, true_and])
            simp only [hwn, hn, hb, h0, hw1, e6, e7, hlt, f1, f2, f7, not_true_eq_false, not_false_eq_true, true_implies, false_implies, and_true, true_and, reduceCtorEq, implies_true, false_and, Bool.not_false, Bool.not_true]
            (repeat' first | exact q' | exact e8 | omega | (intro hh; first | exact absurd hs hh | exact absurd hh h0 | skip) | constructor)
          · (simp only [Tree.holds, Int.toNat_natCast, Nat.zero_add, decide_true, Bool.and_self, Bool.and_true, Bool.true_and, true_and, decide_eq_true_eq, decide_eq_false_iff_not, Bool.and_eq_true, Bool.not_eq_true', Bool.not_eq_false', hw, f1, f2, f7, f11, g1, g2, g3, g4, g5, g6, e1, e2, e3, e4, e5, reduceCtorEq, not_true_eq_false, not_false_eq_true, false_implies, true_implies, forall_const, and_true, true_and])
            simp only [hwn, hn, hb, h0, hlt, f1, f2, f7, not_true_eq_false, not_false_eq_true, true_implies, false_implies, and_true, true_and, reduceCtorEq, implies_true, false_and, Bool.not_false, Bool.not_true]
            (repeat' first | exact q' | omega | (intro hh; first | exact absurd hh h0 | skip) | constructor)
      · have q' : Q (.normal, mkT 251 (myS ⟨n, .nils, t, x, a, ls, fs, w⟩ [] (k + 1)), hp 0 (Md.bs ⟨n, .nils, t, x, a, ls, fs, w⟩ ++ myB [])) := by
          rw [hbb, decide_eq_false hlt] at q0; exact q0
        by_cases hn : (k : Int) < n
        · have hb := f8 hn
          rw [hbb] at hb
          by_cases h0 : 0 < a.getD k 0
          · have hs := f10 h0
            have hw1 := f5 h0
            have e6 : 0 ≤ a.getD k 0 - 1 := by omega
            have e7 : a.getD k 0 - 1 < ((rowAt T k).length : Int) := by omega
            have e8 : (a.getD k 0 - 1).toNat < (rowAt T k).length := by omega
            rw [hbb] at hs
            (simp only [Tree.holds, Int.toNat_natCast, Nat.zero_add, decide_true, Bool.and_self, Bool.and_true, Bool.true_and, true_and, decide_eq_true_eq, decide_eq_false_iff_not, Bool.and_eq_true, Bool.not_eq_true', Bool.not_eq_false', hw, f1, f2, f7, f11, g1, g2, g3, g4, g5, g6, e1, e2, e3, e4, e5, reduceCtorEq, not_true_eq_false, not_false_eq_true, false_implies, true_implies, forall_const, and_true, true_and])
            simp only [hn, hb, h0, hw1, e6, e7, hlt, f1, f2, f7, not_true_eq_false, not_false_eq_true, true_implies, false_implies, and_true, true_and, reduceCtorEq, implies_true, false_and, Bool.not_false, Bool.not_true]
            (repeat' first | exact q' | exact e8 | omega | (intro hh; first | exact absurd hs hh | exact absurd hh h0 | skip) | constructor)
          · (simp only [Tree.holds, Int.toNat_natCast, Nat.zero_add, decide_true, Bool.and_self, Bool.and_true, Bool.true_and, true_and, decide_eq_true_eq, decide_eq_false_iff_not, Bool.and_eq_true, Bool.not_eq_true', Bool.not_eq_false', hw, f1, f2, f7, f11, g1, g2, g3, g4, g5, g6, e1, e2, e3, e4, e5, reduceCtorEq, not_true_eq_false, not_false_eq_true, false_implies, true_implies, forall_const, and_true, true_and])
            simp only [hn, hb, h0, hlt, f1, f2, f7, not_true_eq_false, not_false_eq_true, true_implies, false_implies, and_true, true_and, reduceCtorEq, implies_true, false_and, Bool.not_false, Bool.not_true]
            (repeat' first | exact q' | omega | (intro hh; first | exact absurd hh h0 | skip) | constructor)
        · have hb := f9 hn
          rw [hbb] at hb
          have hwn := f6 hn
          by_cases h0 : 0 < a.getD k 0
          · have hs := f10 h0
            have hw1 := f5 h0
            have e6 : 0 ≤ a.getD k 0 - 1 := by omega
            have e7 : a.getD k 0 - 1 < ((rowAt T k).length : Int) := by omega
            have e8 : (a.getD k 0 - 1).toNat < (rowAt T k).length := by omega
            rw [hbb] at hs
            (simp only [Tree.holds, Int.toNat_natCast, Nat.zero_add, decide_true, Bool.and_self, Bool.and_true, Bool.true_and, true_and, decide_eq_true_eq, decide_eq_false_iff_not, Bool.and_eq_true, Bool.not_eq_true', Bool.not_eq_false', hw, f1, f2, f7, f11, g1, g2, g3, g4, g5, g6, e1, e2, e3, e4, e5, reduceCtorEq, not_true_eq_false, not_false_eq_true, false_implies, true_implies, forall_const, and_true, true_and])
            simp only [hwn, hn, hb, h0, hw1, e6, e7, hlt, f1, f2, f7, not_true_eq_false, not_false_eq_true, true_implies, false_implies, and_true, true_and, reduceCtorEq, implies_true, false_and, Bool.not_false, Bool.not_true]
            (repeat' first | exact q' | exact e8 | omega | (intro hh; first | exact absurd hs hh | exact absurd hh h0 | skip) | constructor)
          · (simp only [Tree.holds, Int.toNat_natCast, Nat.zero_add, decide_true, Bool.and_self, Bool.and_true, Bool.true_and, true_and, decide_eq_true_eq, decide_eq_false_iff_not, Bool.and_eq_true, Bool.not_eq_true', Bool.not_eq_false', hw, f1, f2, f7, f11, g1, g2, g3, g4, g5, g6, e1, e2, e3, e4, e5, reduceCtorEq, not_true_eq_false, not_false_eq_true, false_implies, true_implies, forall_const, and_true, true_and])
            simp only [hwn, hn, hb, h0, hlt, f1, f2, f7, not_true_eq_false, not_false_eq_true, true_implies, false_implies, and_true, true_and, reduceCtorEq, implies_true, false_and, Bool.not_false, Bool.not_true]
            (repeat' first | exact q' | omega | (intro hh; first | exact absurd hh h0 | skip) | constructor)
    · by_cases hlt : a.getD k 0 < ((rowAt T k).length : Int)
      · have q' : Q (.normal, mkT 251 (myS ⟨n, .nils, t, x, a, ls, fs, w⟩ [] (k + 1)), hp 0 (Md.bs ⟨n, .nils, t, x, a, ls, fs, w⟩ ++ myB [])) := by
          rw [hbb, decide_eq_true hlt] at q0; exact q0
        by_cases hn : (k : Int) < n
        · have hb := f8 hn
          rw [hbb] at hb
          by_cases h0 : 0 < a.getD k 0
          · have hs := f10 h0
            have hw1 := f5 h0
            have e6 : 0 ≤ a.getD k 0 - 1 := by omega
            have e7 : a.getD k 0 - 1 < ((rowAt T k).length : Int) := by omega
            have e8 : (a.getD k 0 - 1).toNat < (rowAt T k).length := by omega
            rw [hbb] at hs
            (simp only [Tree.holds, Int.toNat_natCast, Nat.zero_add, decide_true, Bool.and_self, Bool.and_true, Bool.true_and, true_and, decide_eq_true_eq, decide_eq_false_iff_not, Bool.and_eq_true, Bool.not_eq_true', Bool.not_eq_false', hw, f1, f2, f7, f11, g1, g2, g3, g4, g5, g6, e1, e2, e3, e4, e5, reduceCtorEq, not_true_eq_false, not_false_eq_true, false_implies, true_implies, forall_const, and_true, true_and])
            simp only [hn, hb, h0, hw1, e6, e7, hlt, f1, f2, f7, not_true_eq_false, not_false_eq_true, true_implies, false_implies, and_true, true_and, reduceCtorEq, implies_true, false_and, Bool.not_false, Bool.not_true]
            (repeat' first | exact q' | exact e8 | omega | (intro hh; first | exact absurd hs hh | exact absurd hh h0 | skip) | constructor)
          · (simp only [Tree.holds, Int.toNat_natCast, Nat.zero_add, decide_true, Bool.and_self, Bool.and_true, Bool.true_and, true_and, decide_eq_true_eq, decide_eq_false_iff_not, Bool.and_eq_true, Bool.not_eq_true', Bool.not_eq_false', hw, f1, f2, f7, f11, g1, g2, g3, g4, g5, g6, e1, e2, e3, e4, e5, reduceCtorEq, not_true_eq_false, not_false_eq_true, false_implies, true_implies, forall_const, and_true, true_and])
            simp only [hn, hb, h0, hlt, f1, f2, f7, not_true_eq_false, not_false_eq_true, true_implies, false_implies, and_true, true_and, reduceCtorEq, implies_true, false_and, Bool.not_false, Bool.not_true]
            (repeat' first | exact q' | omega | (intro hh; first | exact absurd hh h0 | skip) | constructor)
        · have hb := f9 hn
          rw [hbb] at hb
          have hwn := f6 hn
          by_cases h0 : 0 < a.getD k 0
          · have hs := f10 h0
            have hw1 := f5 h0
            have e6 : 0 ≤ a.getD k 0 - 1 := by omega
            have e7 : a.getD k 0 - 1 < ((rowAt T k).length : Int) := by omega
            have e8 : (a.getD k 0 - 1).toNat < (rowAt T k).length := by omega
            rw [hbb] at hs
            (simp only [Tree.holds, Int.toNat_natCast, Nat.zero_add, decide_true, Bool.and_self, Bool.and_true, Bool.true_and, true_and, decide_eq_true_eq, decide_eq_false_iff_not, Bool.and_eq_true, Bool.not_eq_true', Bool.not_eq_false', hw, f1, f2, f7, f11, g1, g2, g3, g4, g5, g6, e1, e2, e3, e4, e5, reduceCtorEq, not_true_eq_false, not_false_eq_true, false_implies, true_implies, forall_const, and_true, true_and])
            simp only [hwn, hn, hb, h0, hw1, e6, e7, hlt, f1, f2, f7, not_true_eq_false, not_false_eq_true, true_implies, false_implies, and_true, true_and, reduceCtorEq, implies_true, false_and, Bool.not_false, Bool.not_true]
            (repeat' first | exact q' | exact e8 | omega | (intro hh; first | exact absurd hs hh | exact absurd hh h0 | skip) | constructor)
          · (simp only [Tree.holds, Int.toNat_natCast, Nat.zero_add, decide_true, Bool.and_self, Bool.and_true, Bool.true_and, true_and, decide_eq_true_eq, decide_eq_false_iff_not, Bool.and_eq_true, Bool.not_eq_true', Bool.not_eq_false', hw, f1, f2, f7, f11, g1, g2, g3, g4, g5, g6, e1, e2, e3, e4, e5, reduceCtorEq, not_true_eq_false, not_false_eq_true, false_implies, true_implies, forall_const, and_true, true_and])
            simp only [hwn, hn, hb, h0, hlt, f1, f2, f7, not_true_eq_false, not_false_eq_true, true_implies, false_implies, and_true, true_and, reduceCtorEq, implies_true, false_and, Bool.not_false, Bool.not_true]
            (repeat' first | exact q' | omega | (intro hh; first | exact absurd hh h0 | skip) | constructor)
      · have q' : Q (.normal, mkT 251 (myS ⟨n, .nils, t, x, a, ls, fs, w⟩ [] (k + 1)), hp 0 (Md.bs ⟨n, .nils, t, x, a, ls, fs, w⟩ ++ myB [])) := by
          rw [hbb, decide_eq_false hlt] at q0; exact q0
        by_cases hn : (k : Int) < n
        · have hb := f8 hn
          rw [hbb] at hb
          by_cases h0 : 0 < a.getD k 0
          · have hs := f10 h0
            have hw1 := f5 h0
            have e6 : 0 ≤ a.getD k 0 - 1 := by omega
            have e7 : a.getD k 0 - 1 < ((rowAt T k).length : Int) := by omega
            have e8 : (a.getD k 0 - 1).toNat < (rowAt T k).length := by omega
            rw [hbb] at hs
            (simp only [Tree.holds, Int.toNat_natCast, Nat.zero_add, decide_true, Bool.and_self, Bool.and_true, Bool.true_and, true_and, decide_eq_true_eq, decide_eq_false_iff_not, Bool.and_eq_true, Bool.not_eq_true', Bool.not_eq_false', hw, f1, f2, f7, f11, g1, g2, g3, g4, g5, g6, e1, e2, e3, e4, e5, reduceCtorEq, not_true_eq_false, not_false_eq_true, false_implies, true_implies, forall_const, and_true, true_and])
            simp only [hn, hb, h0, hw1, e6, e7, hlt, f1, f2, f7, not_true_eq_false, not_false_eq_true, true_implies, false_implies, and_true, true_and, reduceCtorEq, implies_true, false_and, Bool.not_false, Bool.not_true]
            (repeat' first | exact q' | exact e8 | omega | (intro hh; first | exact absurd hs hh | exact absurd hh h0 | skip) | constructor)
          · (simp only [Tree.holds, Int.toNat_natCast, Nat.zero_add, decide_true, Bool.and_self, Bool.and_true, Bool.true_and, true_and, decide_eq_true_eq, decide_eq_false_iff_not, Bool.and_eq_true, Bool.not_eq_true', Bool.not_eq_false', hw, f1, f2, f7, f11, g1, g2, g3, g4, g5, g6, e1, e2, e3, e4, e5, reduceCtorEq, not_true_eq_false, not_false_eq_true, false_implies, true_implies, forall_const, and_true, true_and])
            simp only [hn, hb, h0, hlt, f1, f2, f7, not_true_eq_false, not_false_eq_true, true_implies, false_implies, and_true, true_and, reduceCtorEq, implies_true, false_and, Bool.not_false, Bool.not_true]
            (repeat' first | exact q' | omega | (intro hh; first | exact absurd hh h0 | skip) | constructor)
        · have hb := f9 hn
          rw [hbb] at hb
          have hwn := f6 hn
          by_cases h0 : 0 < a.getD k 0
          · have hs := f10 h0
            have hw1 := f5 h0
            have e6 : 0 ≤ a.getD k 0 - 1 := by omega
            have e7 : a.getD k 0 - 1 < ((rowAt T k).length : Int) := by omega
            have e8 : (a.getD k 0 - 1).toNat < (rowAt T k).length := by omega
            rw [hbb] at hs
            (simp only [Tree.holds, Int.toNat_natCast, Nat.zero_add, decide_true, Bool.and_self, Bool.and_true, Bool.true_and, true_and, decide_eq_true_eq, decide_eq_false_iff_not, Bool.and_eq_true, Bool.not_eq_true', Bool.not_eq_false', hw, f1, f2, f7, f11, g1, g2, g3, g4, g5, g6, e1, e2, e3, e4, e5, reduceCtorEq, not_true_eq_false, not_false_eq_true, false_implies, true_implies, forall_const, and_true, true_and])
            simp only [hwn, hn, hb, h0, hw1, e6, e7, hlt, f1, f2, f7, not_true_eq_false, not_false_eq_true, true_implies, false_implies, and_true, true_and, reduceCtorEq, implies_true, false_and, Bool.not_false, Bool.not_true]
            (repeat' first | exact q' | exact e8 | omega | (intro hh; first | exact absurd hs hh | exact absurd hh h0 | skip) | constructor)
          · (simp only [Tree.holds, Int.toNat_natCast, Nat.zero_add, decide_true, Bool.and_self, Bool.and_true, Bool.true_and, true_and, decide_eq_true_eq, decide_eq_false_iff_not, Bool.and_eq_true, Bool.not_eq_true', Bool.not_eq_false', hw, f1, f2, f7, f11, g1, g2, g3, g4, g5, g6, e1, e2, e3, e4, e5, reduceCtorEq, not_true_eq_false, not_false_eq_true, false_implies, true_implies, forall_const, and_true, true_and])
            simp only [hwn, hn, hb, h0, hlt, f1, f2, f7, not_true_eq_false, not_false_eq_true, true_implies, false_implies, and_true, true_and, reduceCtorEq, implies_true, false_and, Bool.not_false, Bool.not_true]
            (repeat' first | exact q' | omega | (intro hh; first | exact absurd hh h0 | skip) | constructor)
  · simp only [Tree.holds, decide_eq_true_eq, decide_eq_false_iff_not]
    exact ⟨fun k1 => absurd k1 (by omega), fun k1 => q2 hk'⟩

set_option maxRecDepth 8000 in
theorem my_round_ns {T : Tc} (h : Ways T) (y : Md) (hy : okSync T y) (hO : y.O = .nils) {ms : List Int} (hms : ms.length ≤ 100) {k : Nat} (hk : k ≤ T.F.length) {Q : State → Prop}
    (q1 : k < T.F.length → Q (.normal, mkT 251 (y.ins ++ [(15, .slice (.own 3 0 0 1) (myN T y ms k).length none), (16, .int .i64 ((k + 1 : Nat) : Int))]), hp 0 (y.bs ++ [elI (myN T y ms k)]))) (q2 : k = T.F.length → Q (.exit 8, mkT 251 (y.ins ++ [(15, .slice (.own 3 0 0 1) ms.length none)]), hp 0 (y.bs ++ [elI ms]))) :
    Takes Try.prog (tabF T) ra base 0 (codeOf 4 (false :: pMy)) (mkT 251 (y.ins ++ [(15, .slice (.own 3 0 0 1) ms.length none), (16, .int .i64 (k : Int))])) (hp 0 (y.bs ++ [elI ms])) Q := by
  have hE := tabF_plain T
  have hW := W_ok (E := tabF T) (ra := ra) (base := base) (S6_ok h) noL_ok
  have hsh := hy.1
  have hls : y.ls.length = T.F.length := by rw [hsh.2.1, List.length_map]
  have hal : y.a.length = T.F.length := hsh.2.2.2.1
  have hK : T.F.length ≤ 20 := hsh.2.2.2.2.1
  have hw : wr .i64 ((k : Int) + 1) = ((k + 1 : Nat) : Int) := by rw [wr_in ⟨by omega, by omega⟩]; omega
  have hF := fun hk => myF hy (k := k) hk
  have hm : may T y k = (!(blkd y.x y.n k) && decide (y.a.getD k 0 < (rowAt T k).length)) := rfl
  obtain ⟨n, O, t, x, a, ls, fs, w⟩ := y
  simp only at hls hal hO hF q1 q2 hm ⊢
  subst hO
  refine takes_of_tree hE hW (f := 4) (.inr (by kernel_rfl)) (hp_below _) (my_ns T n t x a ls fs w ms (k : Int)) ?_
  rcases Nat.lt_or_eq_of_le hk with hk' | hk'
  · obtain ⟨f1, f2, f3, f4, f5, f6, f7, f8, f9, f10, f11⟩ := hF hk'
    simp only at f1 f2 f3 f4 f5 f6 f7 f8 f9 f10 f11
    have hok := f11
    simp only [okAl, Bool.and_eq_true, decide_eq_true_eq] at hok
    obtain ⟨g1, g2, g3, g4, g5, g6⟩ := hok
    have q0 := q1 hk'
    rw [myN, hm] at q0
    have e1 : (k : Int) < (ls.length : Int) := by omega
    have e2 : (k : Int) < (a.length : Int) := by omega
    have e3 : k < ls.length := by omega
    have e4 : k < a.length := by omega
    have e5 : (0 : Int) ≤ (k : Int) := by omega
    cases hbb : blkd x n k
    · by_cases hlt : a.getD k 0 < ((rowAt T k).length : Int)
      · have q' : Q (.normal, mkT 251 (Md.ins ⟨n, .nils, t, x, a, ls, fs, w⟩ ++ [(15, .slice (.own 3 0 0 1) (ms ++ [(k : Int)]).length none), (16, .int .i64 ((k + 1 : Nat) : Int))]), hp 0 (Md.bs ⟨n, .nils, t, x, a, ls, fs, w⟩ ++ [elI (ms ++ [(k : Int)])])) := by
          rw [hbb, decide_eq_true hlt] at q0; exact q0
        have e : ms ++ [(k : Int)] = List.take ms.length (List.drop 0 ms) ++ List.take 1 (List.drop 0 [(k : Int)]) := by simp
        have el : (ms ++ [(k : Int)]).length = ms.length + 1 := by simp
        rw [elI, el, e] at q'
        by_cases hn : (k : Int) < n
        · have hb := f8 hn
          rw [hbb] at hb
          by_cases h0 : 0 < a.getD k 0
          · have hs := f10 h0
            have hw1 := f5 h0
            have e6 : 0 ≤ a.getD k 0 - 1 := by omega
            have e7 : a.getD k 0 - 1 < ((rowAt T k).length : Int) := by omega
            have e8 : (a.getD k 0 - 1).toNat < (rowAt T k).length := by omega
            rw [hbb] at hs
            (simp only [Tree.holds, Int.toNat_natCast, Nat.zero_add, decide_true, Bool.and_self, Bool.and_true, Bool.true_and, true_and, decide_eq_true_eq, decide_eq_false_iff_not, Bool.and_eq_true, Bool.not_eq_true', Bool.not_eq_false', hw, f1, f2, f7, f11, g1, g2, g3, g4, g5, g6, e1, e2, e3, e4, e5, reduceCtorEq, not_true_eq_false, not_false_eq_true, false_implies, true_implies, forall_const, and_true, true_and])
            simp only [hn, hb, h0, hw1, e6, e7, hlt, f1, f2, f7, not_true_eq_false, not_false_eq_true, true_implies, false_implies, and_true, true_and, reduceCtorEq, implies_true, false_and, Bool.not_false, Bool.not_true]
            (repeat' first | exact q' | exact e8 | omega | (intro hh; first | exact absurd hs hh | exact absurd hh h0 | skip) | constructor)
          · (simp only [Tree.holds, Int.toNat_natCast, Nat.zero_add, decide_true, Bool.and_self, Bool.and_true, Bool.true_and, true_and, decide_eq_true_eq, decide_eq_false_iff_not, Bool.and_eq_true, Bool.not_eq_true', Bool.not_eq_false', hw, f1, f2, f7, f11, g1, g2, g3, g4, g5, g6, e1, e2, e3, e4, e5, reduceCtorEq, not_true_eq_false, not_false_eq_true, false_implies, true_implies, forall_const, and_true, true_and])
            simp only [hn, hb, h0, hlt, f1, f2, f7, not_true_eq_false, not_false_eq_true, true_implies, false_implies, and_true, true_and, reduceCtorEq, implies_true, false_and, Bool.not_false, Bool.not_true]
            (repeat' first | exact q' | omega | (intro hh; first | exact absurd hh h0 | skip) | constructor)
        · have hb := f9 hn
          rw [hbb] at hb
          have hwn := f6 hn
          by_cases h0 : 0 < a.getD k 0
          · have hs := f10 h0
            have hw1 := f5 h0
            have e6 : 0 ≤ a.getD k 0 - 1 := by omega
            have e7 : a.getD k 0 - 1 < ((rowAt T k).length : Int) := by omega
            have e8 : (a.getD k 0 - 1).toNat < (rowAt T k).length := by omega
            rw [hbb] at hs
            (simp only [Tree.holds, Int.toNat_natCast, Nat.zero_add, decide_true, Bool.and_self, Bool.and_true, Bool.true_and, true_and, decide_eq_true_eq, decide_eq_false_iff_not, Bool.and_eq_true, Bool.not_eq_true', Bool.not_eq_false', hw, f1, f2, f7, f11, g1, g2, g3, g4, g5, g6, e1, e2, e3, e4, e5, reduceCtorEq, not_true_eq_false, not_false_eq_true, false_implies, true_implies, forall_const, and_true, true_and])
            simp only [hwn, hn, hb, h0, hw1, e6, e7, hlt, f1, f2, f7, not_true_eq_false, not_false_eq_true, true_implies, false_implies, and_true, true_and, reduceCtorEq, implies_true, false_and, Bool.not_false, Bool.not_true]
            (repeat' first | exact q' | exact e8 | omega | (intro hh; first | exact absurd hs hh | exact absurd hh h0 | skip) | constructor)
          · (simp only [Tree.holds, Int.toNat_natCast, Nat.zero_add, decide_true, Bool.and_self, Bool.and_true, Bool.true_and, true_and, decide_eq_true_eq, decide_eq_false_iff_not, Bool.and_eq_true, Bool.not_eq_true', Bool.not_eq_false', hw, f1, f2, f7, f11, g1, g2, g3, g4, g5, g6, e1, e2, e3, e4, e5, reduceCtorEq, not_true_eq_false, not_false_eq_true, false_implies, true_implies, forall_const, and_true, true_and])
            simp only [hwn, hn, hb, h0, hlt, f1, f2, f7, not_true_eq_false, not_false_eq_true, true_implies, false_implies, and_true, true_and, reduceCtorEq, implies_true, false_and, Bool.not_false, Bool.not_true]
            (repeat' first | exact q' | omega | (intro hh; first | exact absurd hh h0 | skip) | constructor)
      · have q' : Q (.normal, mkT 251 (Md.ins ⟨n, .nils, t, x, a, ls, fs, w⟩ ++ [(15, .slice (.own 3 0 0 1) ms.length none), (16, .int .i64 ((k + 1 : Nat) : Int))]), hp 0 (Md.bs ⟨n, .nils, t, x, a, ls, fs, w⟩ ++ [elI ms])) := by
          rw [hbb, decide_eq_false hlt] at q0; exact q0
        by_cases hn : (k : Int) < n
        · have hb := f8 hn
          rw [hbb] at hb
          by_cases h0 : 0 < a.getD k 0
          · have hs := f10 h0
            have hw1 := f5 h0
            have e6 : 0 ≤ a.getD k 0 - 1 := by omega
            have e7 : a.getD k 0 - 1 < ((rowAt T k).length : Int) := by omega
            have e8 : (a.getD k 0 - 1).toNat < (rowAt T k).length := by omega
            rw [hbb] at hs
            (simp only [Tree.holds, Int.toNat_natCast, Nat.zero_add, decide_true, Bool.and_self, Bool.and_true, Bool.true_and, true_and, decide_eq_true_eq, decide_eq_false_iff_not, Bool.and_eq_true, Bool.not_eq_true', Bool.not_eq_false', hw, f1, f2, f7, f11, g1, g2, g3, g4, g5, g6, e1, e2, e3, e4, e5, reduceCtorEq, not_true_eq_false, not_false_eq_true, false_implies, true_implies, forall_const, and_true, true_and])
            simp only [hn, hb, h0, hw1, e6, e7, hlt, f1, f2, f7, not_true_eq_false, not_false_eq_true, true_implies, false_implies, and_true, true_and, reduceCtorEq, implies_true, false_and, Bool.not_false, Bool.not_true]
            (repeat' first | exact q' | exact e8 | omega | (intro hh; first | exact absurd hs hh | exact absurd hh h0 | skip) | constructor)
          · (simp only [Tree.holds, Int.toNat_natCast, Nat.zero_add, decide_true, Bool.and_self, Bool.and_true, Bool.true_and, true_and, decide_eq_true_eq, decide_eq_false_iff_not, Bool.and_eq_true, Bool.not_eq_true', Bool.not_eq_false', hw, f1, f2, f7, f11, g1, g2, g3, g4, g5, g6, e1, e2, e3, e4, e5, reduceCtorEq, not_true_eq_false, not_false_eq_true, false_implies, true_implies, forall_const, and_true, true_and])
            simp only [hn, hb, h0, hlt, f1, f2, f7, not_true_eq_false, not_false_eq_true, true_implies, false_implies, and_true, true_and, reduceCtorEq, implies_true, false_and, Bool.not_false, Bool.not_true]
            (repeat' first | exact q' | omega | (intro hh; first | exact absurd hh h0 | skip) | constructor)
        · have hb := f9 hn
          rw [hbb] at hb
          have hwn := f6 hn
          by_cases h0 : 0 < a.getD k 0
          · have hs := f10 h0
            have hw1 := f5 h0
            have e6 : 0 ≤ a.getD k 0 - 1 := by omega
            have e7 : a.getD k 0 - 1 < ((rowAt T k).length : Int) := by omega
            have e8 : (a.getD k 0 - 1).toNat < (rowAt T k).length := by omega
            rw [hbb] at hs
            (simp only [Tree.holds, Int.toNat_natCast, Nat.zero_add, decide_true, Bool.and_self, Bool.and_true, Bool.true_and, true_and, decide_eq_true_eq, decide_eq_false_iff_not, Bool.and_eq_true, Bool.not_eq_true', Bool.not_eq_false', hw, f1, f2, f7, f11, g1, g2, g3, g4, g5, g6, e1, e2, e3, e4, e5, reduceCtorEq, not_true_eq_false, not_false_eq_true, false_implies, true_implies, forall_const, and_true, true_and])
            simp only [hwn, hn, hb, h0, hw1, e6, e7, hlt, f1, f2, f7, not_true_eq_false, not_false_eq_true, true_implies, false_implies, and_true, true_and, reduceCtorEq, implies_true, false_and, Bool.not_false, Bool.not_true]
            (repeat' first | exact q' | exact e8 | omega | (intro hh; first | exact absurd hs hh | exact absurd hh h0 | skip) | constructor)
          · (simp only [Tree.holds, Int.toNat_natCast, Nat.zero_add, decide_true, Bool.and_self, Bool.and_true, Bool.true_and, true_and, decide_eq_true_eq, decide_eq_false_iff_not, Bool.and_eq_true, Bool.not_eq_true', Bool.not_eq_false', hw, f1, f2, f7, f11, g1, g2, g3, g4, g5, g6, e1, e2, e3, e4, e5, reduceCtorEq, not_true_eq_false, not_false_eq_true, false_implies, true_implies, forall_const, and_true, true_and])
            simp only [hwn, hn, hb, h0, hlt, f1, f2, f7, not_true_eq_false, not_false_eq_true, true_implies, false_implies, and_true, true_and, reduceCtorEq, implies_true, false_and, Bool.not_false, Bool.not_true]
            (repeat' first | exact q' | omega | (intro hh; first | exact absurd hh h0 | skip) | constructor)
    · by_cases hlt : a.getD k 0 < ((rowAt T k).length : Int)
      · have q' : Q (.normal, mkT 251 (Md.ins ⟨n, .nils, t, x, a, ls, fs, w⟩ ++ [(15, .slice (.own 3 0 0 1) ms.length none), (16, .int .i64 ((k + 1 : Nat) : Int))]), hp 0 (Md.bs ⟨n, .nils, t, x, a, ls, fs, w⟩ ++ [elI ms])) := by
          rw [hbb, decide_eq_true hlt] at q0; exact q0
        by_cases hn : (k : Int) < n
        · have hb := f8 hn
          rw [hbb] at hb
          by_cases h0 : 0 < a.getD k 0
          · have hs := f10 h0
            have hw1 := f5 h0
            have e6 : 0 ≤ a.getD k 0 - 1 := by omega
            have e7 : a.getD k 0 - 1 < ((rowAt T k).length : Int) := by omega
            have e8 : (a.getD k 0 - 1).toNat < (rowAt T k).length := by omega
            rw [hbb] at hs
            (simp only [Tree.holds, Int.toNat_natCast, Nat.zero_add, decide_true, Bool.and_self, Bool.and_true, Bool.true_and, true_and, decide_eq_true_eq, decide_eq_false_iff_not, Bool.and_eq_true, Bool.not_eq_true', Bool.not_eq_false', hw, f1, f2, f7, f11, g1, g2, g3, g4, g5, g6, e1, e2, e3, e4, e5, reduceCtorEq, not_true_eq_false, not_false_eq_true, false_implies, true_implies, forall_const, and_true, true_and])
            simp only [hn, hb, h0, hw1, e6, e7, hlt, f1, f2, f7, not_true_eq_false, not_false_eq_true, true_implies, false_implies, and_true, true_and, reduceCtorEq, implies_true, false_and, Bool.not_false, Bool.not_true]
            (repeat' first | exact q' | exact e8 | omega | (intro hh; first | exact absurd hs hh | exact absurd hh h0 | skip) | constructor)
          · (simp only [Tree.holds, Int.toNat_natCast, Nat.zero_add, decide_true, Bool.and_self, Bool.and_true, Bool.true_and, true_and, decide_eq_true_eq, decide_eq_false_iff_not, Bool.and_eq_true, Bool.not_eq_true', Bool.not_eq_false', hw, f1, f2, f7, f11, g1, g2, g3, g4, g5, g6, e1, e2, e3, e4, e5, reduceCtorEq, not_true_eq_false, not_false_eq_true, false_implies, true_implies, forall_const, and_true, true_and])
            simp only [hn, hb, h0, hlt, f1, f2, f7, not_true_eq_false, not_false_eq_true, true_implies, false_implies, and_true, true_and, reduceCtorEq, implies_true, false_and, Bool.not_false, Bool.not_true]
            (repeat' first | exact q' | omega | (intro hh; first | exact absurd hh h0 | skip) | constructor)
        · have hb := f9 hn
          rw [hbb] at hb
          have hwn := f6 hn
          by_cases h0 : 0 < a.getD k 0
          · have hs := f10 h0
            have hw1 := f5 h0
            have e6 : 0 ≤ a.getD k 0 - 1 := by omega
            have e7 : a.getD k 0 - 1 < ((rowAt T k).length : Int) := by omega
            have e8 : (a.getD k 0 - 1).toNat < (rowAt T k).length := by omega
            rw [hbb] at hs
            (simp only [Tree.holds, Int.toNat_natCast, Nat.zero_add, decide_true, Bool.and_self, Bool.and_true, Bool.true_and, true_and, decide_eq_true_eq, decide_eq_false_iff_not, Bool.and_eq_true, Bool.not_eq_true', Bool.not_eq_false', hw, f1, f2, f7, f11, g1, g2, g3, g4, g5, g6, e1, e2, e3, e4, e5, reduceCtorEq, not_true_eq_false, not_false_eq_true, false_implies, true_implies, forall_const, and_true, true_and])
            simp only [hwn, hn, hb, h0, hw1, e6, e7, hlt, f1, f2, f7, not_true_eq_false, not_false_eq_true, true_implies, false_implies, and_true, true_and, reduceCtorEq, implies_true, false_and, Bool.not_false, Bool.not_true]
            (repeat' first | exact q' | exact e8 | omega | (intro hh; first | exact absurd hs hh | exact absurd hh h0 | skip) | constructor)
          · (simp only [Tree.holds, Int.toNat_natCast, Nat.zero_add, decide_true, Bool.and_self, Bool.and_true, Bool.true_and, true_and, decide_eq_true_eq, decide_eq_false_iff_not, Bool.and_eq_true, Bool.not_eq_true', Bool.not_eq_false', hw, f1, f2, f7, f11, g1, g2, g3, g4, g5, g6, e1, e2, e3, e4, e5, reduceCtorEq, not_true_eq_false, not_false_eq_true, false_implies, true_implies, forall_const, and_true, true_and])
            simp only [hwn, hn, hb, h0, hlt, f1, f2, f7, not_true_eq_false, not_false_eq_true, true_implies, false_implies, and_true, true_and, reduceCtorEq, implies_true, false_and, Bool.not_false, Bool.not_true]
            (repeat' first | exact q' | omega | (intro hh; first | exact absurd hh h0 | skip) | constructor)
      · have q' : Q (.normal, mkT 251 (Md.ins ⟨n, .nils, t, x, a, ls, fs, w⟩ ++ [(15, .slice (.own 3 0 0 1) ms.length none), (16, .int .i64 ((k + 1 : Nat) : Int))]), hp 0 (Md.bs ⟨n, .nils, t, x, a, ls, fs, w⟩ ++ [elI ms])) := by
          rw [hbb, decide_eq_false hlt] at q0; exact q0
        by_cases hn : (k : Int) < n
        · have hb := f8 hn
          rw [hbb] at hb
          by_cases h0 : 0 < a.getD k 0
          · have hs := f10 h0
            have hw1 := f5 h0
            have e6 : 0 ≤ a.getD k 0 - 1 := by omega
            have e7 : a.getD k 0 - 1 < ((rowAt T k).length : Int) := by omega
            have e8 : (a.getD k 0 - 1).toNat < (rowAt T k).length := by omega
            rw [hbb] at hs
            (simp only [Tree.holds, Int.toNat_natCast, Nat.zero_add, decide_true, Bool.and_self, Bool.and_true, Bool.true_and, true_and, decide_eq_true_eq, decide_eq_false_iff_not, Bool.and_eq_true, Bool.not_eq_true', Bool.not_eq_false', hw, f1, f2, f7, f11, g1, g2, g3, g4, g5, g6, e1, e2, e3, e4, e5, reduceCtorEq, not_true_eq_false, not_false_eq_true, false_implies, true_implies, forall_const, and_true, true_and])
            simp only [hn, hb, h0, hw1, e6, e7, hlt, f1, f2, f7, not_true_eq_false, not_false_eq_true, true_implies, false_implies, and_true, true_and, reduceCtorEq, implies_true, false_and, Bool.not_false, Bool.not_true]
            (repeat' first | exact q' | exact e8 | omega | (intro hh; first | exact absurd hs hh | exact absurd hh h0 | skip) | constructor)
          · (simp only [Tree.holds, Int.toNat_natCast, Nat.zero_add, decide_true, Bool.and_self, Bool.and_true, Bool.true_and, true_and, decide_eq_true_eq, decide_eq_false_iff_not, Bool.and_eq_true, Bool.not_eq_true', Bool.not_eq_false', hw, f1, f2, f7, f11, g1, g2, g3, g4, g5, g6, e1, e2, e3, e4, e5, reduceCtorEq, not_true_eq_false, not_false_eq_true, false_implies, true_implies, forall_const, and_true, true_and])
            simp only [hn, hb, h0, hlt, f1, f2, f7, not_true_eq_false, not_false_eq_true, true_implies, false_implies, and_true, true_and, reduceCtorEq, implies_true, false_and, Bool.not_false, Bool.not_true]
            (repeat' first | exact q' | omega | (intro hh; first | exact absurd hh h0 | skip) | constructor)
        · have hb := f9 hn
          rw [hbb] at hb
          have hwn := f6 hn
          by_cases h0 : 0 < a.getD k 0
          · have hs := f10 h0
            have hw1 := f5 h0
            have e6 : 0 ≤ a.getD k 0 - 1 := by omega
            have e7 : a.getD k 0 - 1 < ((rowAt T k).length : Int) := by omega
            have e8 : (a.getD k 0 - 1).toNat < (rowAt T k).length := by omega
            rw [hbb] at hs
            (simp only [Tree.holds, Int.toNat_natCast, Nat.zero_add, decide_true, Bool.and_self, Bool.and_true, Bool.true_and, true_and, decide_eq_true_eq, decide_eq_false_iff_not, Bool.and_eq_true, Bool.not_eq_true', Bool.not_eq_false', hw, f1, f2, f7, f11, g1, g2, g3, g4, g5, g6, e1, e2, e3, e4, e5, reduceCtorEq, not_true_eq_false, not_false_eq_true, false_implies, true_implies, forall_const, and_true, true_and])
            simp only [hwn, hn, hb, h0, hw1, e6, e7, hlt, f1, f2, f7, not_true_eq_false, not_false_eq_true, true_implies, false_implies, and_true, true_and, reduceCtorEq, implies_true, false_and, Bool.not_false, Bool.not_true]
            (repeat' first | exact q' | exact e8 | omega | (intro hh; first | exact absurd hs hh | exact absurd hh h0 | skip) | constructor)
          · (simp only [Tree.holds, Int.toNat_natCast, Nat.zero_add, decide_true, Bool.and_self, Bool.and_true, Bool.true_and, true_and, decide_eq_true_eq, decide_eq_false_iff_not, Bool.and_eq_true, Bool.not_eq_true', Bool.not_eq_false', hw, f1, f2, f7, f11, g1, g2, g3, g4, g5, g6, e1, e2, e3, e4, e5, reduceCtorEq, not_true_eq_false, not_false_eq_true, false_implies, true_implies, forall_const, and_true, true_and])
            simp only [hwn, hn, hb, h0, hlt, f1, f2, f7, not_true_eq_false, not_false_eq_true, true_implies, false_implies, and_true, true_and, reduceCtorEq, implies_true, false_and, Bool.not_false, Bool.not_true]
            (repeat' first | exact q' | omega | (intro hh; first | exact absurd hh h0 | skip) | constructor)
  · simp only [Tree.holds, decide_eq_true_eq, decide_eq_false_iff_not]
    exact ⟨fun k1 => absurd k1 (by omega), fun k1 => q2 hk'⟩

set_option maxRecDepth 8000 in
theorem my_round_sn {T : Tc} (h : Ways T) (y : Md) (hy : okSync T y) {q : Nat} (hO : y.O = .slice (.ro 4 0 0 0) q none) {k : Nat} (hk : k ≤ T.F.length) {Q : State → Prop}
    (q1 : k < T.F.length → Q (.normal, mkT 251 (myS y (myN T y [] k) (k + 1)), hp 0 (y.bs ++ myB (myN T y [] k)))) (q2 : k = T.F.length → Q (.exit 8, mkT 251 (y.ins ++ [(15, .nils)]), hp 0 y.bs)) :
    Takes Try.prog (tabF T) ra base 0 (codeOf 4 (false :: pMy)) (mkT 251 (myS y [] k)) (hp 0 y.bs) Q := by
  have hE := tabF_plain T
  have hW := W_ok (E := tabF T) (ra := ra) (base := base) (S6_ok h) noL_ok
  have hsh := hy.1
  have hls : y.ls.length = T.F.length := by rw [hsh.2.1, List.length_map]
  have hal : y.a.length = T.F.length := hsh.2.2.2.1
  have hK : T.F.length ≤ 20 := hsh.2.2.2.2.1
  have hw : wr .i64 ((k : Int) + 1) = ((k + 1 : Nat) : Int) := by rw [wr_in ⟨by omega, by omega⟩]; omega
  have hF := fun hk => myF hy (k := k) hk
  have hm : may T y k = (!(blkd y.x y.n k) && decide (y.a.getD k 0 < (rowAt T k).length)) := rfl
  obtain ⟨n, O, t, x, a, ls, fs, w⟩ := y
  simp only at hls hal hO hF q1 q2 hm ⊢
  subst hO
  refine takes_of_tree hE hW (f := 4) (.inr (by kernel_rfl)) (hp_below _) (my_sn T n q t x a ls fs w (k : Int)) ?_
  rcases Nat.lt_or_eq_of_le hk with hk' | hk'
  · obtain ⟨f1, f2, f3, f4, f5, f6, f7, f8, f9, f10, f11⟩ := hF hk'
    simp only at f1 f2 f3 f4 f5 f6 f7 f8 f9 f10 f11
    have hok := f11
    simp only [okAl, Bool.and_eq_true, decide_eq_true_eq] at hok
    obtain ⟨g1, g2, g3, g4, g5, g6⟩ := hok
    have q0 := q1 hk'
    rw [myN, hm] at q0
    have e1 : (k : Int) < (ls.length : Int) := by omega
    have e2 : (k : Int) < (a.length : Int) := by omega
    have e3 : k < ls.length := by omega
    have e4 : k < a.length := by omega
    have e5 : (0 : Int) ≤ (k : Int) := by omega
    cases hbb : blkd x n k
    · by_cases hlt : a.getD k 0 < ((rowAt T k).length : Int)
      · have q' : Q (.normal, mkT 251 (myS ⟨n, .slice (.ro 4 0 0 0) q none, t, x, a, ls, fs, w⟩ [(k : Int)] (k + 1)), hp 0 (Md.bs ⟨n, .slice (.ro 4 0 0 0) q none, t, x, a, ls, fs, w⟩ ++ myB [(k : Int)])) := by
          rw [hbb, decide_eq_true hlt] at q0; exact q0
        by_cases hn : (k : Int) < n
        · have hb := f8 hn
          rw [hbb] at hb
          by_cases h0 : 0 < a.getD k 0
          · have hs := f10 h0
            have hw1 := f5 h0
            have e6 : 0 ≤ a.getD k 0 - 1 := by omega
            have e7 : a.getD k 0 - 1 < ((rowAt T k).length : Int) := by omega
            have e8 : (a.getD k 0 - 1).toNat < (rowAt T k).length := by omega
            rw [hbb] at hs
            (simp only [Tree.holds, Int.toNat_natCast, Nat.zero_add, decide_true, Bool.and_self, Bool.and_true, Bool.true_and, true_and, decide_eq_true_eq, decide_eq_false_iff_not, Bool.and_eq_true, Bool.not_eq_true', Bool.not_eq_false', hw, f1, f2, f7, f11, g1, g2, g3, g4, g5, g6, e1, e2, e3, e4, e5, reduceCtorEq, not_true_eq_false, not_false_eq_true, false_implies, true_implies, forall_const, and_true, true_and])
            simp only [hn, hb, h0, hw1, e6, e7, hlt, f1, f2, f7, not_true_eq_false, not_false_eq_true, true_implies, false_implies, and_true, true_and, reduceCtorEq, implies_true, false_and, Bool.not_false, Bool.not_true]
            (repeat' first | exact q' | exact e8 | omega | (intro hh; first | exact absurd hs hh | exact absurd hh h0 | skip) | constructor)
          · (simp only [Tree.holds, Int.toNat_natCast, Nat.zero_add, decide_true, Bool.and_self, Bool.and_true, Bool.true_and, true_and, decide_eq_true_eq, decide_eq_false_iff_not, Bool.and_eq_true, Bool.not_eq_true', Bool.not_eq_false', hw, f1, f2, f7, f11, g1, g2, g3, g4, g5, g6, e1, e2, e3, e4, e5, reduceCtorEq, not_true_eq_false, not_false_eq_true, false_implies, true_implies, forall_const, and_true, true_and])
            simp only [hn, hb, h0, hlt, f1, f2, f7, not_true_eq_false, not_false_eq_true, true_implies, false_implies, and_true, true_and, reduceCtorEq, implies_true, false_and, Bool.not_false, Bool.not_true]
            (repeat' first | exact q' | omega | (intro hh; first | exact absurd hh h0 | skip) | constructor)
        · have hb := f9 hn
          rw [hbb] at hb
          have hwn := f6 hn
          by_cases h0 : 0 < a.getD k 0
          · have hs := f10 h0
            have hw1 := f5 h0
            have e6 : 0 ≤ a.getD k 0 - 1 := by omega
            have e7 : a.getD k 0 - 1 < ((rowAt T k).length : Int) := by omega
            have e8 : (a.getD k 0 - 1).toNat < (rowAt T k).length := by omega
            rw [hbb] at hs
            (simp only [Tree.holds, Int.toNat_natCast, Nat.zero_add, decide_true, Bool.and_self, Bool.and_true, Bool.true_and, true_and, decide_eq_true_eq, decide_eq_false_iff_not, Bool.and_eq_true, Bool.not_eq_true', Bool.not_eq_false', hw, f1, f2, f7, f11, g1, g2, g3, g4, g5, g6, e1, e2, e3, e4, e5, reduceCtorEq, not_true_eq_false, not_false_eq_true, false_implies, true_implies, forall_const, and_true, true_and])
            simp only [hwn, hn, hb, h0, hw1, e6, e7, hlt, f1, f2, f7, not_true_eq_false, not_false_eq_true, true_implies, false_implies, and_true, true_and, reduceCtorEq, implies_true, false_and, Bool.not_false, Bool.not_true]
            (repeat' first | exact q' | exact e8 | omega | (intro hh; first | exact absurd hs hh | exact absurd hh h0 | skip) | constructor)
          · (simp only [Tree.holds, Int.toNat_natCast, Nat.zero_add, decide_true, Bool.and_self, Bool.and_true, Bool.true_and, true_and, decide_eq_true_eq, decide_eq_false_iff_not, Bool.and_eq_true, Bool.not_eq_true', Bool.not_eq_false', hw, f1, f2, f7, f11, g1, g2, g3, g4, g5, g6, e1, e2, e3, e4, e5, reduceCtorEq, not_true_eq_false, not_false_eq_true, false_implies, true_implies, forall_const, and_true, true_and])
            simp only [hwn, hn, hb, h0, hlt, f1, f2, f7, not_true_eq_false, not_false_eq_true, true_implies, false_implies, and_true, true_and, reduceCtorEq, implies_true, false_and, Bool.not_false, Bool.not_true]
            (repeat' first | exact q' | omega | (intro hh; first | exact absurd hh h0 | skip) | constructor)
      · have q' : Q (.normal, mkT 251 (myS ⟨n, .slice (.ro 4 0 0 0) q none, t, x, a, ls, fs, w⟩ [] (k + 1)), hp 0 (Md.bs ⟨n, .slice (.ro 4 0 0 0) q none, t, x, a, ls, fs, w⟩ ++ myB [])) := by
          rw [hbb, decide_eq_false hlt] at q0; exact q0
        by_cases hn : (k : Int) < n
        · have hb := f8 hn
          rw [hbb] at hb
          by_cases h0 : 0 < a.getD k 0
          · have hs := f10 h0
            have hw1 := f5 h0
            have e6 : 0 ≤ a.getD k 0 - 1 := by omega
            have e7 : a.getD k 0 - 1 < ((rowAt T k).length : Int) := by omega
            have e8 : (a.getD k 0 - 1).toNat < (rowAt T k).length := by omega
            rw [hbb] at hs
            (simp only [Tree.holds, Int.toNat_natCast, Nat.zero_add, decide_true, Bool.and_self, Bool.and_true, Bool.true_and, true_and, decide_eq_true_eq, decide_eq_false_iff_not, Bool.and_eq_true, Bool.not_eq_true', Bool.not_eq_false', hw, f1, f2, f7, f11, g1, g2, g3, g4, g5, g6, e1, e2, e3, e4, e5, reduceCtorEq, not_true_eq_false, not_false_eq_true, false_implies, true_implies, forall_const, and_true, true_and])
            simp only [hn, hb, h0, hw1, e6, e7, hlt, f1, f2, f7, not_true_eq_false, not_false_eq_true, true_implies, false_implies, and_true, true_and, reduceCtorEq, implies_true, false_and, Bool.not_false, Bool.not_true]
            (repeat' first | exact q' | exact e8 | omega | (intro hh; first | exact absurd hs hh | exact absurd hh h0 | skip) | constructor)
          · (simp only [Tree.holds, Int.toNat_natCast, Nat.zero_add, decide_true, Bool.and_self, Bool.and_true, Bool.true_and, true_and, decide_eq_true_eq, decide_eq_false_iff_not, Bool.and_eq_true, Bool.not_eq_true', Bool.not_eq_false', hw, f1, f2, f7, f11, g1, g2, g3, g4, g5, g6, e1, e2, e3, e4, e5, reduceCtorEq, not_true_eq_false, not_false_eq_true, false_implies, true_implies, forall_const, and_true, true_and])
            simp only [hn, hb, h0, hlt, f1, f2, f7, not_true_eq_false, not_false_eq_true, true_implies, false_implies, and_true, true_and, reduceCtorEq, implies_true, false_and, Bool.not_false, Bool.not_true]
            (repeat' first | exact q' | omega | (intro hh; first | exact absurd hh h0 | skip) | constructor)
        · have hb := f9 hn
          rw [hbb] at hb
          have hwn := f6 hn
          by_cases h0 : 0 < a.getD k 0
          · have hs := f10 h0
            have hw1 := f5 h0
            have e6 : 0 ≤ a.getD k 0 - 1 := by omega
            have e7 : a.getD k 0 - 1 < ((rowAt T k).length : Int) := by omega
            have e8 : (a.getD k 0 - 1).toNat < (rowAt T k).length := by omega
            rw [hbb] at hs
            (simp only [Tree.holds, Int.toNat_natCast, Nat.zero_add, decide_true, Bool.and_self, Bool.and_true, Bool.true_and, true_and, decide_eq_true_eq, decide_eq_false_iff_not, Bool.and_eq_true, Bool.not_eq_true', Bool.not_eq_false', hw, f1, f2, f7, f11, g1, g2, g3, g4, g5, g6, e1, e2, e3, e4, e5, reduceCtorEq, not_true_eq_false, not_false_eq_true, false_implies, true_implies, forall_const, and_true, true_and])
            simp only [hwn, hn, hb, h0, hw1, e6, e7, hlt, f1, f2, f7, not_true_eq_false, not_false_eq_true, true_implies, false_implies, and_true, true_and, reduceCtorEq, implies_true, false_and, Bool.not_false, Bool.not_true]
            (repeat' first | exact q' | exact e8 | omega | (intro hh; first | exact absurd hs hh | exact absurd hh h0 | skip) | constructor)
          · (simp only [Tree.holds, Int.toNat_natCast, Nat.zero_add, decide_true, Bool.and_self, Bool.and_true, Bool.true_and, true_and, decide_eq_true_eq, decide_eq_false_iff_not, Bool.and_eq_true, Bool.not_eq_true', Bool.not_eq_false', hw, f1, f2, f7, f11, g1, g2, g3, g4, g5, g6, e1, e2, e3, e4, e5, reduceCtorEq, not_true_eq_false, not_false_eq_true, false_implies, true_implies, forall_const, and_true, true_and])
            simp only [hwn, hn, hb, h0, hlt, f1, f2, f7, not_true_eq_false, not_false_eq_true, true_implies, false_implies, and_true, true_and, reduceCtorEq, implies_true, false_and, Bool.not_false, Bool.not_true]
            (repeat' first | exact q' | omega | (intro hh; first | exact absurd hh h0 | skip) | constructor)
    · by_cases hlt : a.getD k 0 < ((rowAt T k).length : Int)
      · have q' : Q (.normal, mkT 251 (myS ⟨n, .slice (.ro 4 0 0 0) q none, t, x, a, ls, fs, w⟩ [] (k + 1)), hp 0 (Md.bs ⟨n, .slice (.ro 4 0 0 0) q none, t, x, a, ls, fs, w⟩ ++ myB [])) := by
          rw [hbb, decide_eq_true hlt] at q0; exact q0
        by_cases hn : (k : Int) < n
        · have hb := f8 hn
          rw [hbb] at hb
          by_cases h0 : 0 < a.getD k 0
          · have hs := f10 h0
            have hw1 := f5 h0
            have e6 : 0 ≤ a.getD k 0 - 1 := by omega
            have e7 : a.getD k 0 - 1 < ((rowAt T k).length : Int) := by omega
            have e8 : (a.getD k 0 - 1).toNat < (rowAt T k).length := by omega
            rw [hbb] at hs
            (simp only [Tree.holds, Int.toNat_natCast, Nat.zero_add, decide_true, Bool.and_self, Bool.and_true, Bool.true_and, true_and, decide_eq_true_eq, decide_eq_false_iff_not, Bool.and_eq_true, Bool.not_eq_true', Bool.not_eq_false', hw, f1, f2, f7, f11, g1, g2, g3, g4, g5, g6, e1, e2, e3, e4, e5, reduceCtorEq, not_true_eq_false, not_false_eq_true, false_implies, true_implies, forall_const, and_true, true_and])
            simp only [hn, hb, h0, hw1, e6, e7, hlt, f1, f2, f7, not_true_eq_false, not_false_eq_true, true_implies, false_implies, and_true, true_and, reduceCtorEq, implies_true, false_and, Bool.not_false, Bool.not_true]
            (repeat' first | exact q' | exact e8 | omega | (intro hh; first | exact absurd hs hh | exact absurd hh h0 | skip) | constructor)
          · (simp only [Tree.holds, Int.toNat_natCast, Nat.zero_add, decide_true, Bool.and_self, Bool.and_true, Bool.true_and, true_and, decide_eq_true_eq, decide_eq_false_iff_not, Bool.and_eq_true, Bool.not_eq_true', Bool.not_eq_false', hw, f1, f2, f7, f11, g1, g2, g3, g4, g5, g6, e1, e2, e3, e4, e5, reduceCtorEq, not_true_eq_false, not_false_eq_true, false_implies, true_implies, forall_const, and_true, true_and])
            simp only [hn, hb, h0, hlt, f1, f2, f7, not_true_eq_false, not_false_eq_true, true_implies, false_implies, and_true, true_and, reduceCtorEq, implies_true, false_and, Bool.not_false, Bool.not_true]
            (repeat' first | exact q' | omega | (intro hh; first | exact absurd hh h0 | skip) | constructor)
        · have hb := f9 hn
          rw [hbb] at hb
          have hwn := f6 hn
          by_cases h0 : 0 < a.getD k 0
          · have hs := f10 h0
            have hw1 := f5 h0
            have e6 : 0 ≤ a.getD k 0 - 1 := by omega
            have e7 : a.getD k 0 - 1 < ((rowAt T k).length : Int) := by omega
            have e8 : (a.getD k 0 - 1).toNat < (rowAt T k).length := by omega
            rw [hbb] at hs
            (simp only [Tree.holds, Int.toNat_natCast, Nat.zero_add, decide_true, Bool.and_self, Bool.and_true, Bool.true_and, true_and, decide_eq_true_eq, decide_eq_false_iff_not, Bool.and_eq_true, Bool.not_eq_true', Bool.not_eq_false', hw, f1, f2, f7, f11, g1, g2, g3, g4, g5, g6, e1, e2, e3, e4, e5, reduceCtorEq, not_true_eq_false, not_false_eq_true, false_implies, true_implies, forall_const, and_true, true_and])
            simp only [hwn, hn, hb, h0, hw1, e6, e7, hlt, f1, f2, f7, not_true_eq_false, not_false_eq_true, true_implies, false_implies, and_true, true_and, reduceCtorEq, implies_true, false_and, Bool.not_false, Bool.not_true]
            (repeat' first | exact q' | exact e8 | omega | (intro hh; first | exact absurd hs hh | exact absurd hh h0 | skip) | constructor)
          · (simp only [Tree.holds, Int.toNat_natCast, Nat.zero_add, decide_true, Bool.and_self, Bool.and_true, Bool.true_and, true_and, decide_eq_true_eq, decide_eq_false_iff_not, Bool.and_eq_true, Bool.not_eq_true', Bool.not_eq_false', hw, f1, f2, f7, f11, g1, g2, g3, g4, g5, g6, e1, e2, e3, e4, e5, reduceCtorEq, not_true_eq_false, not_false_eq_true, false_implies, true_implies, forall_const, and_true, true_and])
            simp only [hwn, hn, hb, h0, hlt, f1, f2, f7, not_true_eq_false, not_false_eq_true, true_implies, false_implies, and_true, true_and, reduceCtorEq, implies_true, false_and, Bool.not_false, Bool.not_true]
            (repeat' first | exact q' | omega | (intro hh; first | exact absurd hh h0 | skip) | constructor)
      · have q' : Q (.normal, mkT 251 (myS ⟨n, .slice (.ro 4 0 0 0) q none, t, x, a, ls, fs, w⟩ [] (k + 1)), hp 0 (Md.bs ⟨n, .slice (.ro 4 0 0 0) q none, t, x, a, ls, fs, w⟩ ++ myB [])) := by
          rw [hbb, decide_eq_false hlt] at q0; exact q0
        by_cases hn : (k : Int) < n
        · have hb := f8 hn
          rw [hbb] at hb
          by_cases h0 : 0 < a.getD k 0
          · have hs := f10 h0
            have hw1 := f5 h0
            have e6 : 0 ≤ a.getD k 0 - 1 := by omega
            have e7 : a.getD k 0 - 1 < ((rowAt T k).length : Int) := by omega
            have e8 : (a.getD k 0 - 1).toNat < (rowAt T k).length := by omega
            rw [hbb] at hs
            (simp only [Tree.holds, Int.toNat_natCast, Nat.zero_add, decide_true, Bool.and_self, Bool.and_true, Bool.true_and, true_and, decide_eq_true_eq, decide_eq_false_iff_not, Bool.and_eq_true, Bool.not_eq_true', Bool.not_eq_false', hw, f1, f2, f7, f11, g1, g2, g3, g4, g5, g6, e1, e2, e3, e4, e5, reduceCtorEq, not_true_eq_false, not_false_eq_true, false_implies, true_implies, forall_const, and_true, true_and])
            simp only [hn, hb, h0, hw1, e6, e7, hlt, f1, f2, f7, not_true_eq_false, not_false_eq_true, true_implies, false_implies, and_true, true_and, reduceCtorEq, implies_true, false_and, Bool.not_false, Bool.not_true]
            (repeat' first | exact q' | exact e8 | omega | (intro hh; first | exact absurd hs hh | exact absurd hh h0 | skip) | constructor)
          · (simp only [Tree.holds, Int.toNat_natCast, Nat.zero_add, decide_true, Bool.and_self, Bool.and_true, Bool.true_and, true_and, decide_eq_true_eq, decide_eq_false_iff_not, Bool.and_eq_true, Bool.not_eq_true', Bool.not_eq_false', hw, f1, f2, f7, f11, g1, g2, g3, g4, g5, g6, e1, e2, e3, e4, e5, reduceCtorEq, not_true_eq_false, not_false_eq_true, false_implies, true_implies, forall_const, and_true, true_and])
            simp only [hn, hb, h0, hlt, f1, f2, f7, not_true_eq_false, not_false_eq_true, true_implies, false_implies, and_true, true_and, reduceCtorEq, implies_true, false_and, Bool.not_false, Bool.not_true]
            (repeat' first | exact q' | omega | (intro hh; first | exact absurd hh h0 | skip) | constructor)
        · have hb := f9 hn
          rw [hbb] at hb
          have hwn := f6 hn
          by_cases h0 : 0 < a.getD k 0
          · have hs := f10 h0
            have hw1 := f5 h0
            have e6 : 0 ≤ a.getD k 0 - 1 := by omega
            have e7 : a.getD k 0 - 1 < ((rowAt T k).length : Int) := by omega
            have e8 : (a.getD k 0 - 1).toNat < (rowAt T k).length := by omega
            rw [hbb] at hs
            (simp only [Tree.holds, Int.toNat_natCast, Nat.zero_add, decide_true, Bool.and_self, Bool.and_true, Bool.true_and, true_and, decide_eq_true_eq, decide_eq_false_iff_not, Bool.and_eq_true, Bool.not_eq_true', Bool.not_eq_false', hw, f1, f2, f7, f11, g1, g2, g3, g4, g5, g6, e1, e2, e3, e4, e5, reduceCtorEq, not_true_eq_false, not_false_eq_true, false_implies, true_implies, forall_const, and_true, true_and])
            simp only [hwn, hn, hb, h0, hw1, e6, e7, hlt, f1, f2, f7, not_true_eq_false, not_false_eq_true, true_implies, false_implies, and_true, true_and, reduceCtorEq, implies_true, false_and, Bool.not_false, Bool.not_true]
            (repeat' first | exact q' | exact e8 | omega | (intro hh; first | exact absurd hs hh | exact absurd hh h0 | skip) | constructor)
          · (simp only [Tree.holds, Int.toNat_natCast, Nat.zero_add, decide_true, Bool.and_self, Bool.and_true, Bool.true_and, true_and, decide_eq_true_eq, decide_eq_false_iff_not, Bool.and_eq_true, Bool.not_eq_true', Bool.not_eq_false', hw, f1, f2, f7, f11, g1, g2, g3, g4, g5, g6, e1, e2, e3, e4, e5, reduceCtorEq, not_true_eq_false, not_false_eq_true, false_implies, true_implies, forall_const, and_true, true_and])
            simp only [hwn, hn, hb, h0, hlt, f1, f2, f7, not_true_eq_false, not_false_eq_true, true_implies, false_implies, and_true, true_and, reduceCtorEq, implies_true, false_and, Bool.not_false, Bool.not_true]
            (repeat' first | exact q' | omega | (intro hh; first | exact absurd hh h0 | skip) | constructor)
  · simp only [Tree.holds, decide_eq_true_eq, decide_eq_false_iff_not]
    exact ⟨fun k1 => absurd k1 (by omega), fun k1 => q2 hk'⟩

set_option maxRecDepth 8000 in
theorem my_round_ss {T : Tc} (h : Ways T) (y : Md) (hy : okSync T y) {q : Nat} (hO : y.O = .slice (.ro 4 0 0 0) q none) {ms : List Int} (hms : ms.length ≤ 100) {k : Nat} (hk : k ≤ T.F.length) {Q : State → Prop}
    (q1 : k < T.F.length → Q (.normal, mkT 251 (y.ins ++ [(15, .slice (.own 3 0 0 1) (myN T y ms k).length none), (16, .int .i64 ((k + 1 : Nat) : Int))]), hp 0 (y.bs ++ [elI (myN T y ms k)]))) (q2 : k = T.F.length → Q (.exit 8, mkT 251 (y.ins ++ [(15, .slice (.own 3 0 0 1) ms.length none)]), hp 0 (y.bs ++ [elI ms]))) :
    Takes Try.prog (tabF T) ra base 0 (codeOf 4 (false :: pMy)) (mkT 251 (y.ins ++ [(15, .slice (.own 3 0 0 1) ms.length none), (16, .int .i64 (k : Int))])) (hp 0 (y.bs ++ [elI ms])) Q := by
  have hE := tabF_plain T
  have hW := W_ok (E := tabF T) (ra := ra) (base := base) (S6_ok h) noL_ok
  have hsh := hy.1
  have hls : y.ls.length = T.F.length := by rw [hsh.2.1, List.length_map]
  have hal : y.a.length = T.F.length := hsh.2.2.2.1
  have hK : T.F.length ≤ 20 := hsh.2.2.2.2.1
  have hw : wr .i64 ((k : Int) + 1) = ((k + 1 : Nat) : Int) := by rw [wr_in ⟨by omega, by omega⟩]; omega
  have hF := fun hk => myF hy (k := k) hk
  have hm : may T y k = (!(blkd y.x y.n k) && decide (y.a.getD k 0 < (rowAt T k).length)) := rfl
  obtain ⟨n, O, t, x, a, ls, fs, w⟩ := y
  simp only at hls hal hO hF q1 q2 hm ⊢
  subst hO
  refine takes_of_tree hE hW (f := 4) (.inr (by kernel_rfl)) (hp_below _) (my_ss T n q t x a ls fs w ms (k : Int)) ?_
  rcases Nat.lt_or_eq_of_le hk with hk' | hk'
  · obtain ⟨f1, f2, f3, f4, f5, f6, f7, f8, f9, f10, f11⟩ := hF hk'
    simp only at f1 f2 f3 f4 f5 f6 f7 f8 f9 f10 f11
    have hok := f11
    simp only [okAl, Bool.and_eq_true, decide_eq_true_eq] at hok
    obtain ⟨g1, g2, g3, g4, g5, g6⟩ := hok
    have q0 := q1 hk'
    rw [myN, hm] at q0
    have e1 : (k : Int) < (ls.length : Int) := by omega
    have e2 : (k : Int) < (a.length : Int) := by omega
    have e3 : k < ls.length := by omega
    have e4 : k < a.length := by omega
    have e5 : (0 : Int) ≤ (k : Int) := by omega
    cases hbb : blkd x n k
    · by_cases hlt : a.getD k 0 < ((rowAt T k).length : Int)
      · have q' : Q (.normal, mkT 251 (Md.ins ⟨n, .slice (.ro 4 0 0 0) q none, t, x, a, ls, fs, w⟩ ++ [(15, .slice (.own 3 0 0 1) (ms ++ [(k : Int)]).length none), (16, .int .i64 ((k + 1 : Nat) : Int))]), hp 0 (Md.bs ⟨n, .slice (.ro 4 0 0 0) q none, t, x, a, ls, fs, w⟩ ++ [elI (ms ++ [(k : Int)])])) := by
          rw [hbb, decide_eq_true hlt] at q0; exact q0
        have e : ms ++ [(k : Int)] = List.take ms.length (List.drop 0 ms) ++ List.take 1 (List.drop 0 [(k : Int)]) := by simp
        have el : (ms ++ [(k : Int)]).length = ms.length + 1 := by simp
        rw [elI, el, e] at q'
        by_cases hn : (k : Int) < n
        · have hb := f8 hn
          rw [hbb] at hb
          by_cases h0 : 0 < a.getD k 0
          · have hs := f10 h0
            have hw1 := f5 h0
            have e6 : 0 ≤ a.getD k 0 - 1 := by omega
            have e7 : a.getD k 0 - 1 < ((rowAt T k).length : Int) := by omega
            have e8 : (a.getD k 0 - 1).toNat < (rowAt T k).length := by omega
            rw [hbb] at hs
            (simp only [Tree.holds, Int.toNat_natCast, Nat.zero_add, decide_true, Bool.and_self, Bool.and_true, Bool.true_and, true_and, decide_eq_true_eq, decide_eq_false_iff_not, Bool.and_eq_true, Bool.not_eq_true', Bool.not_eq_false', hw, f1, f2, f7, f11, g1, g2, g3, g4, g5, g6, e1, e2, e3, e4, e5, reduceCtorEq, not_true_eq_false, not_false_eq_true, false_implies, true_implies, forall_const, and_true, true_and])
            simp only [hn, hb, h0, hw1, e6, e7, hlt, f1, f2, f7, not_true_eq_false, not_false_eq_true, true_implies, false_implies, and_true, true_and, reduceCtorEq, implies_true, false_and, Bool.not_false, Bool.not_true]
            (repeat' first | exact q' | exact e8 | omega | (intro hh; first | exact absurd hs hh | exact absurd hh h0 | skip) | constructor)
          · (simp only [Tree.holds, Int.toNat_natCast, Nat.zero_add, decide_true, Bool.and_self, Bool.and_true, Bool.true_and, true_and, decide_eq_true_eq, decide_eq_false_iff_not, Bool.and_eq_true, Bool.not_eq_true', Bool.not_eq_false', hw, f1, f2, f7, f11, g1, g2, g3, g4, g5, g6, e1, e2, e3, e4, e5, reduceCtorEq, not_true_eq_false, not_false_eq_true, false_implies, true_implies, forall_const, and_true, true_and])
            simp only [hn, hb, h0, hlt, f1, f2, f7, not_true_eq_false, not_false_eq_true, true_implies, false_implies, and_true, true_and, reduceCtorEq, implies_true, false_and, Bool.not_false, Bool.not_true]
            (repeat' first | exact q' | omega | (intro hh; first | exact absurd hh h0 | skip) | constructor)
        · have hb := f9 hn
          rw [hbb] at hb
          have hwn := f6 hn
          by_cases h0 : 0 < a.getD k 0
          · have hs := f10 h0
            have hw1 := f5 h0
            have e6 : 0 ≤ a.getD k 0 - 1 := by omega
            have e7 : a.getD k 0 - 1 < ((rowAt T k).length : Int) := by omega
            have e8 : (a.getD k 0 - 1).toNat < (rowAt T k).length := by omega
            rw [hbb] at hs
            (simp only [Tree.holds, Int.toNat_natCast, Nat.zero_add, decide_true, Bool.and_self, Bool.and_true, Bool.true_and, true_and, decide_eq_true_eq, decide_eq_false_iff_not, Bool.and_eq_true, Bool.not_eq_true', Bool.not_eq_false', hw, f1, f2, f7, f11, g1, g2, g3, g4, g5, g6, e1, e2, e3, e4, e5, reduceCtorEq, not_true_eq_false, not_false_eq_true, false_implies, true_implies, forall_const, and_true, true_and])
            simp only [hwn, hn, hb, h0, hw1, e6, e7, hlt, f1, f2, f7, not_true_eq_false, not_false_eq_true, true_implies, false_implies, and_true, true_and, reduceCtorEq, implies_true, false_and, Bool.not_false, Bool.not_true]
            (repeat' first | exact q' | exact e8 | omega | (intro hh; first | exact absurd hs hh | exact absurd hh h0 | skip) | constructor)
          · (simp only [Tree.holds, Int.toNat_natCast, Nat.zero_add, decide_true, Bool.and_self, Bool.and_true, Bool.true_and, true_and, decide_eq_true_eq, decide_eq_false_iff_not, Bool.and_eq_true, Bool.not_eq_true', Bool.not_eq_false', hw, f1, f2, f7, f11, g1, g2, g3, g4, g5, g6, e1, e2, e3, e4, e5, reduceCtorEq, not_true_eq_false, not_false_eq_true, false_implies, true_implies, forall_const, and_true, true_and])
            simp only [hwn, hn, hb, h0, hlt, f1, f2, f7, not_true_eq_false, not_false_eq_true, true_implies, false_implies, and_true, true_and, reduceCtorEq, implies_true, false_and, Bool.not_false, Bool.not_true]
            (repeat' first | exact q' | omega | (intro hh; first | exact absurd hh h0 | skip) | constructor)
      · have q' : Q (.normal, mkT 251 (Md.ins ⟨n, .slice (.ro 4 0 0 0) q none, t, x, a, ls, fs, w⟩ ++ [(15, .slice (.own 3 0 0 1) ms.length none), (16, .int .i64 ((k + 1 : Nat) : Int))]), hp 0 (Md.bs ⟨n, .slice (.ro 4 0 0 0) q none, t, x, a, ls, fs, w⟩ ++ [elI ms])) := by
          rw [hbb, decide_eq_false hlt] at q0; exact q0
        by_cases hn : (k : Int) < n
        · have hb := f8 hn
          rw [hbb] at hb
          by_cases h0 : 0 < a.getD k 0
          · have hs := f10 h0
            have hw1 := f5 h0
            have e6 : 0 ≤ a.getD k 0 - 1 := by omega
            have e7 : a.getD k 0 - 1 < ((rowAt T k).length : Int) := by omega
            have e8 : (a.getD k 0 - 1).toNat < (rowAt T k).length := by omega
            rw [hbb] at hs
            (simp only [Tree.holds, Int.toNat_natCast, Nat.zero_add, decide_true, Bool.and_self, Bool.and_true, Bool.true_and, true_and, decide_eq_true_eq, decide_eq_false_iff_not, Bool.and_eq_true, Bool.not_eq_true', Bool.not_eq_false', hw, f1, f2, f7, f11, g1, g2, g3, g4, g5, g6, e1, e2, e3, e4, e5, reduceCtorEq, not_true_eq_false, not_false_eq_true, false_implies, true_implies, forall_const, and_true, true_and])
            simp only [hn, hb, h0, hw1, e6, e7, hlt, f1, f2, f7, not_true_eq_false, not_false_eq_true, true_implies, false_implies, and_true, true_and, reduceCtorEq, implies_true, false_and, Bool.not_false, Bool.not_true]
            (repeat' first | exact q' | exact e8 | omega | (intro hh; first | exact absurd hs hh | exact absurd hh h0 | skip) | constructor)
          · (simp only [Tree.holds, Int.toNat_natCast, Nat.zero_add, decide_true, Bool.and_self, Bool.and_true, Bool.true_and, true_and, decide_eq_true_eq, decide_eq_false_iff_not, Bool.and_eq_true, Bool.not_eq_true', Bool.not_eq_false', hw, f1, f2, f7, f11, g1, g2, g3, g4, g5, g6, e1, e2, e3, e4, e5, reduceCtorEq, not_true_eq_false, not_false_eq_true, false_implies, true_implies, forall_const, and_true, true_and])
            simp only [hn, hb, h0, hlt, f1, f2, f7, not_true_eq_false, not_false_eq_true, true_implies, false_implies, and_true, true_and, reduceCtorEq, implies_true, false_and, Bool.not_false, Bool.not_true]
            (repeat' first | exact q' | omega | (intro hh; first | exact absurd hh h0 | skip) | constructor)
        · have hb := f9 hn
          rw [hbb] at hb
          have hwn := f6 hn
          by_cases h0 : 0 < a.getD k 0
          · have hs := f10 h0
            have hw1 := f5 h0
            have e6 : 0 ≤ a.getD k 0 - 1 := by omega
            have e7 : a.getD k 0 - 1 < ((rowAt T k).length : Int) := by omega
            have e8 : (a.getD k 0 - 1).toNat < (rowAt T k).length := by omega
            rw [hbb] at hs
            (simp only [Tree.holds, Int.toNat_natCast, Nat.zero_add, decide_true, Bool.and_self, Bool.and_true, Bool.true_and, true_and, decide_eq_true_eq, decide_eq_false_iff_not, Bool.and_eq_true, Bool.not_eq_true', Bool.not_eq_false', hw, f1, f2, f7, f11, g1, g2, g3, g4, g5, g6, e1, e2, e3, e4, e5, reduceCtorEq, not_true_eq_false, not_false_eq_true, false_implies, true_implies, forall_const, and_true, true_and])
            simp only [hwn, hn, hb, h0, hw1, e6, e7, hlt, f1, f2, f7, not_true_eq_false, not_false_eq_true, true_implies, false_implies, and_true, true_and, reduceCtorEq, implies_true, false_and, Bool.not_false, Bool.not_true]
            (repeat' first | exact q' | exact e8 | omega | (intro hh; first | exact absurd hs hh | exact absurd hh h0 | skip) | constructor)
          · (simp only [Tree.holds, Int.toNat_natCast, Nat.zero_add, decide_true, Bool.and_self, Bool.and_true, Bool.true_and, true_and, decide_eq_true_eq, decide_eq_false_iff_not, Bool.and_eq_true, Bool.not_eq_true', Bool.not_eq_false', hw, f1, f2, f7, f11, g1, g2, g3, g4, g5, g6, e1, e2, e3, e4, e5, reduceCtorEq, not_true_eq_false, not_false_eq_true, false_implies, true_implies, forall_const, and_true, true_and])
            simp only [hwn, hn, hb, h0, hlt, f1, f2, f7, not_true_eq_false, not_false_eq_true, true_implies, false_implies, and_true, true_and, reduceCtorEq, implies_true, false_and, Bool.not_false, Bool.not_true]
            (repeat' first | exact q' | omega | (intro hh; first | exact absurd hh h0 | skip) | constructor)
    · by_cases hlt : a.getD k 0 < ((rowAt T k).length : Int)
      · have q' : Q (.normal, mkT 251 (Md.ins ⟨n, .slice (.ro 4 0 0 0) q none, t, x, a, ls, fs, w⟩ ++ [(15, .slice (.own 3 0 0 1) ms.length none), (16, .int .i64 ((k + 1 : Nat) : Int))]), hp 0 (Md.bs ⟨n, .slice (.ro 4 0 0 0) q none, t, x, a, ls, fs, w⟩ ++ [elI ms])) := by
          rw [hbb, decide_eq_true hlt] at q0; exact q0
        by_cases hn : (k : Int) < n
        · have hb := f8 hn
          rw [hbb] at hb
          by_cases h0 : 0 < a.getD k 0
          · have hs := f10 h0
            have hw1 := f5 h0
            have e6 : 0 ≤ a.getD k 0 - 1 := by omega
            have e7 : a.getD k 0 - 1 < ((rowAt T k).length : Int) := by omega
            have e8 : (a.getD k 0 - 1).toNat < (rowAt T k).length := by omega
            rw [hbb] at hs
            (simp only [Tree.holds, Int.toNat_natCast, Nat.zero_add, decide_true, Bool.and_self, Bool.and_true, Bool.true_and, true_and, decide_eq_true_eq, decide_eq_false_iff_not, Bool.and_eq_true, Bool.not_eq_true', Bool.not_eq_false', hw, f1, f2, f7, f11, g1, g2, g3, g4, g5, g6, e1, e2, e3, e4, e5, reduceCtorEq, not_true_eq_false, not_false_eq_true, false_implies, true_implies, forall_const, and_true, true_and])
            simp only [hn, hb, h0, hw1, e6, e7, hlt, f1, f2, f7, not_true_eq_false, not_false_eq_true, true_implies, false_implies, and_true, true_and, reduceCtorEq, implies_true, false_and, Bool.not_false, Bool.not_true]
            (repeat' first | exact q' | exact e8 | omega | (intro hh; first | exact absurd hs hh | exact absurd hh h0 | skip) | constructor)
          · (simp only [Tree.holds, Int.toNat_natCast, Nat.zero_add, decide_true, Bool.and_self, Bool.and_true, Bool.true_and, true_and, decide_eq_true_eq, decide_eq_false_iff_not, Bool.and_eq_true, Bool.not_eq_true', Bool.not_eq_false', hw, f1, f2, f7, f11, g1, g2, g3, g4, g5, g6, e1, e2, e3, e4, e5, reduceCtorEq, not_true_eq_false, not_false_eq_true, false_implies, true_implies, forall_const, and_true, true_and])
            simp only [hn, hb, h0, hlt, f1, f2, f7, not_true_eq_false, not_false_eq_true, true_implies, false_implies, and_true, true_and, reduceCtorEq, implies_true, false_and, Bool.not_false, Bool.not_true]
            (repeat' first | exact q' | omega | (intro hh; first | exact absurd hh h0 | skip) | constructor)
        · have hb := f9 hn
          rw [hbb] at hb
          have hwn := f6 hn
          by_cases h0 : 0 < a.getD k 0
          · have hs := f10 h0
            have hw1 := f5 h0
            have e6 : 0 ≤ a.getD k 0 - 1 := by omega
            have e7 : a.getD k 0 - 1 < ((rowAt T k).length : Int) := by omega
            have e8 : (a.getD k 0 - 1).toNat < (rowAt T k).length := by omega
            rw [hbb] at hs
            (simp only [Tree.holds, Int.toNat_natCast, Nat.zero_add, decide_true, Bool.and_self, Bool.and_true, Bool.true_and, true_and, decide_eq_true_eq, decide_eq_false_iff_not, Bool.and_eq_true, Bool.not_eq_true', Bool.not_eq_false', hw, f1, f2, f7, f11, g1, g2, g3, g4, g5, g6, e1, e2, e3, e4, e5, reduceCtorEq, not_true_eq_false, not_false_eq_true, false_implies, true_implies, forall_const, and_true, true_and])
            simp only [hwn, hn, hb, h0, hw1, e6, e7, hlt, f1, f2, f7, not_true_eq_false, not_false_eq_true, true_implies, false_implies, and_true, true_and, reduceCtorEq, implies_true, false_and, Bool.not_false, Bool.not_true]
            (repeat' first | exact q' | exact e8 | omega | (intro hh; first | exact absurd hs hh | exact absurd hh h0 | skip) | constructor)
          · (simp only [Tree.holds, Int.toNat_natCast, Nat.zero_add, decide_true, Bool.and_self, Bool.and_true, Bool.true_and, true_and, decide_eq_true_eq, decide_eq_false_iff_not, Bool.and_eq_true, Bool.not_eq_true', Bool.not_eq_false', hw, f1, f2, f7, f11, g1, g2, g3, g4, g5, g6, e1, e2, e3, e4, e5, reduceCtorEq, not_true_eq_false, not_false_eq_true, false_implies, true_implies, forall_const, and_true, true_and])
            simp only [hwn, hn, hb, h0, hlt, f1, f2, f7, not_true_eq_false, not_false_eq_true, true_implies, false_implies, and_true, true_and, reduceCtorEq, implies_true, false_and, Bool.not_false, Bool.not_true]
            (repeat' first | exact q' | omega | (intro hh; first | exact absurd hh h0 | skip) | constructor)
      · have q' : Q (.normal, mkT 251 (Md.ins ⟨n, .slice (.ro 4 0 0 0) q none, t, x, a, ls, fs, w⟩ ++ [(15, .slice (.own 3 0 0 1) ms.length none), (16, .int .i64 ((k + 1 : Nat) : Int))]), hp 0 (Md.bs ⟨n, .slice (.ro 4 0 0 0) q none, t, x, a, ls, fs, w⟩ ++ [elI ms])) := by
          rw [hbb, decide_eq_false hlt] at q0; exact q0
        by_cases hn : (k : Int) < n
        · have hb := f8 hn
          rw [hbb] at hb
          by_cases h0 : 0 < a.getD k 0
          · have hs := f10 h0
            have hw1 := f5 h0
            have e6 : 0 ≤ a.getD k 0 - 1 := by omega
            have e7 : a.getD k 0 - 1 < ((rowAt T k).length : Int) := by omega
            have e8 : (a.getD k 0 - 1).toNat < (rowAt T k).length := by omega
            rw [hbb] at hs
            (simp only [Tree.holds, Int.toNat_natCast, Nat.zero_add, decide_true, Bool.and_self, Bool.and_true, Bool.true_and, true_and, decide_eq_true_eq, decide_eq_false_iff_not, Bool.and_eq_true, Bool.not_eq_true', Bool.not_eq_false', hw, f1, f2, f7, f11, g1, g2, g3, g4, g5, g6, e1, e2, e3, e4, e5, reduceCtorEq, not_true_eq_false, not_false_eq_true, false_implies, true_implies, forall_const, and_true, true_and])
            simp only [hn, hb, h0, hw1, e6, e7, hlt, f1, f2, f7, not_true_eq_false, not_false_eq_true, true_implies, false_implies, and_true, true_and, reduceCtorEq, implies_true, false_and, Bool.not_false, Bool.not_true]
            (repeat' first | exact q' | exact e8 | omega | (intro hh; first | exact absurd hs hh | exact absurd hh h0 | skip) | constructor)
          · (simp only [Tree.holds, Int.toNat_natCast, Nat.zero_add, decide_true, Bool.and_self, Bool.and_true, Bool.true_and, true_and, decide_eq_true_eq, decide_eq_false_iff_not, Bool.and_eq_true, Bool.not_eq_true', Bool.not_eq_false', hw, f1, f2, f7, f11, g1, g2, g3, g4, g5, g6, e1, e2, e3, e4, e5, reduceCtorEq, not_true_eq_false, not_false_eq_true, false_implies, true_implies, forall_const, and_true, true_and])
            simp only [hn, hb, h0, hlt, f1, f2, f7, not_true_eq_false, not_false_eq_true, true_implies, false_implies, and_true, true_and, reduceCtorEq, implies_true, false_and, Bool.not_false, Bool.not_true]
            (repeat' first | exact q' | omega | (intro hh; first | exact absurd hh h0 | skip) | constructor)
        · have hb := f9 hn
          rw [hbb] at hb
          have hwn := f6 hn
          by_cases h0 : 0 < a.getD k 0
          · have hs := f10 h0
            have hw1 := f5 h0
            have e6 : 0 ≤ a.getD k 0 - 1 := by omega
            have e7 : a.getD k 0 - 1 < ((rowAt T k).length : Int) := by omega
            have e8 : (a.getD k 0 - 1).toNat < (rowAt T k).length := by omega
            rw [hbb] at hs
            (simp only [Tree.holds, Int.toNat_natCast, Nat.zero_add, decide_true, Bool.and_self, Bool.and_true, Bool.true_and, true_and, decide_eq_true_eq, decide_eq_false_iff_not, Bool.and_eq_true, Bool.not_eq_true', Bool.not_eq_false', hw, f1, f2, f7, f11, g1, g2, g3, g4, g5, g6, e1, e2, e3, e4, e5, reduceCtorEq, not_true_eq_false, not_false_eq_true, false_implies, true_implies, forall_const, and_true, true_and])
            simp only [hwn, hn, hb, h0, hw1, e6, e7, hlt, f1, f2, f7, not_true_eq_false, not_false_eq_true, true_implies, false_implies, and_true, true_and, reduceCtorEq, implies_true, false_and, Bool.not_false, Bool.not_true]
            (repeat' first | exact q' | exact e8 | omega | (intro hh; first | exact absurd hs hh | exact absurd hh h0 | skip) | constructor)
          · (simp only [Tree.holds, Int.toNat_natCast, Nat.zero_add, decide_true, Bool.and_self, Bool.and_true, Bool.true_and, true_and, decide_eq_true_eq, decide_eq_false_iff_not, Bool.and_eq_true, Bool.not_eq_true', Bool.not_eq_false', hw, f1, f2, f7, f11, g1, g2, g3, g4, g5, g6, e1, e2, e3, e4, e5, reduceCtorEq, not_true_eq_false, not_false_eq_true, false_implies, true_implies, forall_const, and_true, true_and])
            simp only [hwn, hn, hb, h0, hlt, f1, f2, f7, not_true_eq_false, not_false_eq_true, true_implies, false_implies, and_true, true_and, reduceCtorEq, implies_true, false_and, Bool.not_false, Bool.not_true]
            (repeat' first | exact q' | omega | (intro hh; first | exact absurd hh h0 | skip) | constructor)
  · simp only [Tree.holds, decide_eq_true_eq, decide_eq_false_iff_not]
    exact ⟨fun k1 => absurd k1 (by omega), fun k1 => q2 hk'⟩

end

end Go.Proofs.Ytbdjcekekhgnkaa
