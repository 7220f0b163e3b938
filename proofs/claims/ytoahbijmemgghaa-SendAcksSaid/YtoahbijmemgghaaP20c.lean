/- send: SendAcks, the whole. -/
import Derived.Test.YtoahbijmemgghaaP20b
set_option linter.unusedSimpArgs false
namespace Go.Proofs.Ytoahbijmemgghaa
open Ab

section
variable {E : Nat → Nat → Seg} {ra : Nat → Nat → Nat × Nat} {base : Nat}

theorem acks_gives (hE : Plain E) {s p a b c d : Int} (hs : 0 ≤ s ∧ s < 256) (hp' : 0 ≤ p ∧ p < 256) (ha : 0 ≤ a ∧ a < 256) (hb : 0 ≤ b ∧ b < 256) (hc : 0 ≤ c ∧ c < 256) (hd : 0 ≤ d ∧ d < 256) :
    Gives Try.prog E ra base 0 6 [.int .u8 s, .int .u8 p, .agg [.int .u8 a, .int .u8 b, .int .u8 c, .int .u8 d]] (hp 0 []) fun v _ => v = .bool true := by
  have hS := S2_ok (E := E) (ra := ra) (base := base) hE
  have hT := T6_ok (E := E) (ra := ra) (base := base) hE
  refine gives_of_treeQ hE (W_ok hS noL_ok) hT (hp_below _) (acks_call E s p a b c d) ?_
  have tm : ∀ u v : Int, 0 ≤ u → 0 < v → 0 ≤ Int.tmod u v ∧ Int.tmod u v < v := fun u v h1 h2 => ⟨Int.tmod_nonneg _ h1, Int.tmod_lt_of_pos _ h2⟩
  obtain ⟨k1, k2⟩ := tm s 16 hs.1 (by decide)
  obtain ⟨K, hK⟩ : ∃ K, K = 1 + Int.tmod s 16 := ⟨_, rfl⟩
  have w1 : wr .i64 (Int.tmod s 16) = Int.tmod s 16 := wr_in ⟨by omega, by omega⟩
  have w2 : wr .i64 (1 + Int.tmod s 16) = K := by rw [hK]; exact wr_in ⟨by omega, by omega⟩
  have w3 : wr .i64 (K + 1) = K + 1 := wr_in ⟨by omega, by omega⟩
  have w4 : wr .i64 (K + 2) = K + 2 := wr_in ⟨by omega, by omega⟩
  have v1 : wr .i64 p = p := wr_in ⟨by omega, by omega⟩
  have v2 : wr .i64 a = a := wr_in ⟨by omega, by omega⟩
  have v3 : wr .i64 b = b := wr_in ⟨by omega, by omega⟩
  have v4 : wr .i64 c = c := wr_in ⟨by omega, by omega⟩
  have v5 : wr .i64 d = d := wr_in ⟨by omega, by omega⟩
  obtain ⟨n1, n2⟩ := tm p (K + 1) hp'.1 (by omega)
  obtain ⟨N, hN⟩ : ∃ N, N = Int.tmod p (K + 1) := ⟨_, rfl⟩
  have v6 : wr .i64 (N + 2) = N + 2 := wr_in ⟨by omega, by omega⟩
  obtain ⟨a1, a2⟩ := tm a (N + 2) ha.1 (by omega)
  obtain ⟨b1, b2⟩ := tm b (K + 2) hb.1 (by omega)
  obtain ⟨c1, c2⟩ := tm c (N + 2) hc.1 (by omega)
  obtain ⟨d1, d2⟩ := tm d (K + 2) hd.1 (by omega)
  have u1 : wr .u64 (Int.tmod a (N + 2)) = Int.tmod a (N + 2) := wr_u64 ⟨by omega, by omega⟩
  have u2 : wr .u64 (Int.tmod c (N + 2)) = Int.tmod c (N + 2) := wr_u64 ⟨by omega, by omega⟩
  have hk : newOk K = true := newOk_iff.2 ⟨by omega, by omega⟩
  have z1 : u64 (Int.tmod a (N + 2)) = true := u64_iff.2 ⟨by omega, by omega⟩
  have z2 : u64 (Int.tmod c (N + 2)) = true := u64_iff.2 ⟨by omega, by omega⟩
  have z3 : i64 (Int.tmod b (K + 2)) = true := i64_iff.2 ⟨by omega, by omega⟩
  have z4 : i64 (Int.tmod d (K + 2)) = true := i64_iff.2 ⟨by omega, by omega⟩
  have o1 : okN 0 K 0 K = true := okN_iff.2 ⟨by decide, by omega, by omega, by decide, by decide, by omega, by omega⟩
  have y1 : Lr.ok (.z ⟨K, Int.tmod a (N + 2), Int.tmod c (N + 2), Int.tmod b (K + 2), Int.tmod d (K + 2)⟩ K 0 K) = true := by
    simp only [Lr.ok, hk, z1, z2, z3, z4, o1, Bool.true_and, Bool.and_eq_true, decide_eq_true_eq]
    omega
  have y2 : ∀ n : Nat, N = n → Lr.ok (.q ⟨K, Int.tmod a (N + 2), Int.tmod c (N + 2), Int.tmod b (K + 2), Int.tmod d (K + 2)⟩ (full K n)) = true := by
    intro n hn
    have o2 := full_ok hk (n := n) (by omega)
    simp only [Lr.ok, hk, z1, z2, z3, z4, o2, Bool.true_and, Bool.and_eq_true, decide_eq_true_eq]
    exact ⟨by show (0 : Int) ≤ 100; decide, by show K ≤ 100; omega⟩
  have hN' : decide (0 ≤ N) = true := decide_eq_true (by omega)
  have hN2 : decide (N ≤ K) = true := decide_eq_true (by omega)
  have q1 : decide (¬ (K + 1 = 0)) = true := decide_eq_true (by omega)
  have q2 : decide (¬ (N + 2 = 0)) = true := decide_eq_true (by omega)
  have q3 : decide (¬ (K + 2 = 0)) = true := decide_eq_true (by omega)
  simp only [w1, w2, w3, w4, v1, v2, v3, v4, v5, ← hN, v6, u1, u2, TreeQ.holds, decide_true, Bool.and_self, Bool.and_true, Bool.true_and, true_and, qSame_self, hk, hN', hN2, q1, q2, q3, Bool.not_true, Bool.false_eq_true, Bool.true_eq_false, false_implies, true_implies, forall_const, Ans.c, Lr.a, and_true]
  refine ⟨fun _ => ⟨y1, ⟨_, rfl, rfl⟩⟩, fun n hn => ⟨y2 n hn.2, ⟨_, rfl, rfl⟩⟩⟩
end

end Go.Proofs.Ytoahbijmemgghaa
