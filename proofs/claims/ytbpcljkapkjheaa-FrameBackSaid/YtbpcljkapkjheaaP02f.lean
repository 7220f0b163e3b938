/- frame: FrameReads: the whole. -/
import Derived.Test.YtbpcljkapkjheaaP02r
import Derived.Test.YtbpcljkapkjheaaT02f
set_option linter.unusedSimpArgs false
set_option linter.unusedVariables false
namespace Go.Proofs.Ytbpcljkapkjheaa
open Ab

theorem tmod_in {q n : Int} (h : 0 ≤ q) (hn : 0 < n) : 0 ≤ Int.tmod q n ∧ Int.tmod q n < n := by
  rw [Int.tmod_eq_emod_of_nonneg h]
  exact ⟨Int.emod_nonneg _ (by omega), Int.emod_lt_of_pos _ hn⟩
theorem row_le (L : List ByteArray) : (rowS L).size ≤ 10100 := by
  have h := row_size (L.take 20)
  rw [List.length_take] at h
  rw [row_eq]; omega
theorem wr_2 {n : Nat} (h : n ≤ 20000) : wr .i64 ((n : Int) + 2) = (n : Int) + 2 := wr_in ⟨by omega, by omega⟩
theorem wr_1 {n : Nat} (h : n ≤ 20000) : wr .i64 ((n : Int) + 1) = (n : Int) + 1 := wr_in ⟨by omega, by omega⟩
theorem wr_16 {p : Int} (h : 0 ≤ p ∧ p < 65536) : wr .i64 p = p := wr_in ⟨by omega, by omega⟩
theorem f_pos {p : Int} {n : Nat} (h : 0 ≤ p) (hn : 0 < (n : Int)) : ¬ (n : Int) = 0 ∧ 0 ≤ Int.tmod p n ∧ Int.tmod p n < n ∧ 0 + Int.toNat (Int.tmod p n) < n := by
  have t := tmod_in h hn
  exact ⟨by omega, t.1, t.2, by omega⟩
theorem f_ne {n : Nat} : ¬ (n : Int) + 2 = 0 := by omega
theorem f_ne1 {n : Nat} : ¬ (n : Int) + 1 = 0 := by omega
theorem f_big {n : Nat} (h : n ≤ 20000) : n ≤ 1000000000000 := by omega
theorem f_lo {q : Int} {n : Nat} (h : 0 ≤ q) : -1000000000000 ≤ Int.tmod q ((n : Int) + 2) := by have := tmod_in h (show (0 : Int) < (n : Int) + 2 by omega); omega
theorem f_hi {q : Int} {n : Nat} (h : 0 ≤ q) (hn : n ≤ 20000) : Int.tmod q ((n : Int) + 2) ≤ 1000000000000 := by have := tmod_in h (show (0 : Int) < (n : Int) + 2 by omega); omega

section
variable {ra : Nat → Nat → Nat × Nat} {base : Nat}
theorem reads_gives {L : List ByteArray} {V : AVal} (hV : okS L V = true) (s : ByteArray) {p q b : Int} (h1 : 0 ≤ p ∧ p < 65536) (h2 : 0 ≤ q ∧ q < 65536) :
    Gives Try.prog (tabS L) ra base 0 4 [.str s, V, .agg [.int .u16 p, .int .u16 q, .int .u8 b]] (hp 0 []) fun v _ => v = .bool true := by
  have hE := tabS_plain L
  have hS := S6_ok (ra := ra) (base := base) L
  have hr := row_le L
  have hc := cut5_le s
  have g1 : 0 ≤ if 500 < (s.size : Int) then 500 else (s.size : Int) := by split <;> omega
  have g2 : (if 500 < (s.size : Int) then 500 else (s.size : Int)) ≤ (s.size : Int) := by split <;> omega
  have x1 : (strOfNums (List.take (rowS L).size (List.drop 0 (List.map (fun b => ((UInt8.toNat b : Nat) : Int)) (Array.toList (rowS L).1))))).size ≤ 20000 := by
    rw [size_nums, List.length_take]; omega
  have x2 : ∀ (i : Nat) (v : Int), (strOfNums (List.take (rowS L).size (List.drop 0 (List.set (List.map (fun b => ((UInt8.toNat b : Nat) : Int)) (Array.toList (rowS L).1)) i v)))).size ≤ 20000 := fun i v => by
    rw [size_nums, List.length_take]; omega
  have k1 := tmod_in h2.1 (show (0 : Int) < ((rowS L).size : Int) + 1 by omega)
  have x3 : (ByteArray.extract (rowS L) (orNat none 0) (orNat (some (Int.tmod q (((rowS L).size : Int) + 1))) (rowS L).size)).size ≤ 20000 := by
    rw [ByteArray.size_extract]; omega
  have m1 : -1000000000000 ≤ p := by omega
  have m2 : p ≤ 1000000000000 := by omega
  have k2 : Int.tmod q (((rowS L).size : Int) + 1) ≤ ((rowS L).size : Int) := by omega
  have k3 : 0 + (rowS L).size ≤ (rowS L).size := by omega
  have k4 : (rowS L).size ≤ 4294967296 := by omega
  have c20 : (cut5 s).size ≤ 20000 := by omega
  have r20 : (rowS L).size ≤ 20000 := by omega
  have q03 : (0 : Nat) < 4 := by decide
  have q13 : (1 : Nat) < 4 := by decide
  have q23 : (2 : Nat) < 4 := by decide
  have q33 : (3 : Nat) < 4 := by decide
  have u1 := wr_1 (n := (rowS L).size) r20
  have e1 : wr .i64 p = p := wr_16 h1
  have e2 : wr .i64 q = q := wr_16 h2
  have fin : ∃ v, ((AExit.ret, mkT 1 [(0, AVal.bool true)], ([] : Log)) : State).2.1 = [v] ∧ v = .bool true := ⟨_, rfl, rfl⟩
  rcases okS_cases hV with ⟨rfl, rfl⟩ | rfl
  · refine gives_of_treeQ hE (W_ok hS noL_ok) noT_ok (hp_below _) (reads_call0 [] s p q b) ?_
    rw [e1, e2]
    simp only [TreeQ.holds, Bool.and_eq_true, decide_eq_true_eq, decide_eq_false_iff_not, ne_eq, u1, g1, g2, hV, k1.1, k2, k3, k4, m1, m2, q03, q13, q23, q33, f_ne1, not_false_eq_true, decide_true, and_true, true_and]
    refine ⟨fun h0 => ?_, fun _ => ?_⟩
    · obtain ⟨t0, t1, t2, t3⟩ := f_pos h1.1 h0
      simp only [t0, t1, t2, t3, not_false_eq_true, and_true, true_and]
      have x2 := x2 (0 + Int.toNat (Int.tmod p ((rowS []).size : Int)))
      simp only [wr_2 c20, wr_2 r20, wr_2 x3, wr_2 (x2 _), f_ne, f_big c20, f_big r20, f_big x3, f_big (x2 _), f_lo h2.1, f_hi h2.1 c20, f_hi h2.1 r20, f_hi h2.1 x3, f_hi h2.1 (x2 _), not_false_eq_true, decide_true, and_true, true_and]
      exact fin
    · simp only [wr_2 c20, wr_2 r20, wr_2 x3, wr_2 x1, f_ne, f_big c20, f_big r20, f_big x3, f_big x1, f_lo h2.1, f_hi h2.1 c20, f_hi h2.1 r20, f_hi h2.1 x3, f_hi h2.1 x1, not_false_eq_true, decide_true, and_true, true_and]
      exact fin
  · refine gives_of_treeQ hE (W_ok hS noL_ok) noT_ok (hp_below _) (reads_call L L.length s p q b) ?_
    rw [e1, e2]
    simp only [TreeQ.holds, Bool.and_eq_true, decide_eq_true_eq, decide_eq_false_iff_not, ne_eq, u1, g1, g2, hV, k1.1, k2, k3, k4, m1, m2, q03, q13, q23, q33, f_ne1, not_false_eq_true, decide_true, and_true, true_and]
    refine ⟨fun h0 => ?_, fun _ => ?_⟩
    · obtain ⟨t0, t1, t2, t3⟩ := f_pos h1.1 h0
      simp only [t0, t1, t2, t3, not_false_eq_true, and_true, true_and]
      have x2 := x2 (0 + Int.toNat (Int.tmod p ((rowS L).size : Int)))
      simp only [wr_2 c20, wr_2 r20, wr_2 x3, wr_2 (x2 _), f_ne, f_big c20, f_big r20, f_big x3, f_big (x2 _), f_lo h2.1, f_hi h2.1 c20, f_hi h2.1 r20, f_hi h2.1 x3, f_hi h2.1 (x2 _), not_false_eq_true, decide_true, and_true, true_and]
      exact fin
    · simp only [wr_2 c20, wr_2 r20, wr_2 x3, wr_2 x1, f_ne, f_big c20, f_big r20, f_big x3, f_big x1, f_lo h2.1, f_hi h2.1 c20, f_hi h2.1 r20, f_hi h2.1 x3, f_hi h2.1 x1, not_false_eq_true, decide_true, and_true, true_and]
      exact fin
end
end Go.Proofs.Ytbpcljkapkjheaa
