/- acc: aggregates as counts, sums, least and greatest ones: merged in whatever order. -/
import Derived.Test.YtebpekgijakonaaP05e
import Derived.Test.YtebpekgijakonaaD05i
namespace Go.Proofs.Ytebpekgijakonaa
open Ab

/-- so many values, of 64 bits each -/
def Qd.ok (q : Qd) : Prop := 1 ≤ q.n ∧ -(q.n * 9223372036854775808) ≤ q.s ∧ q.s ≤ q.n * 9223372036854775807

theorem one_single {v : Int} (h : in64 v) : one v = (single v).ac := by
  obtain ⟨h1, h2⟩ := h
  have e1 : v.fdiv 9223372036854775808 = v / 18446744073709551616 := by
    rw [Int.fdiv_eq_ediv_of_nonneg _ (by omega)]; omega
  show (⟨1, v.fdiv 9223372036854775808, wr .u64 v, v, v⟩ : Ac) = ⟨1, v / 18446744073709551616, v % 18446744073709551616, v, v⟩
  rw [e1]; rfl

theorem single_ok {v : Int} (h : in64 v) : (single v).ok := by
  obtain ⟨h1, h2⟩ := h
  exact ⟨Int.le_refl _, by show -(1 * 9223372036854775808) ≤ v; omega, by show v ≤ 1 * 9223372036854775807; omega⟩

theorem add_ok {p q : Qd} (hp : p.ok) (hq : q.ok) : (p.add q).ok := by
  obtain ⟨h1, h2, h3⟩ := hp
  obtain ⟨k1, k2, k3⟩ := hq
  exact ⟨by show 1 ≤ p.n + q.n; omega, by show -((p.n + q.n) * 9223372036854775808) ≤ p.s + q.s; omega, by show p.s + q.s ≤ (p.n + q.n) * 9223372036854775807; omega⟩

theorem merge_ac {p q : Qd} (hp : p.ok) (hq : q.ok) (hn : p.n + q.n ≤ 1000) : merge p.ac q.ac = (p.add q).ac := by
  obtain ⟨h1, h2, h3⟩ := hp
  obtain ⟨k1, k2, k3⟩ := hq
  obtain ⟨pn, p_s, pa, pb⟩ := p
  obtain ⟨qn, q_s, qa, qb⟩ := q
  simp only at h1 h2 h3 k1 k2 k3 hn
  rw [merge_ne (by show pn ≠ 0; omega) (by show qn ≠ 0; omega)]
  have e1 : wr .i64 (pn + qn) = pn + qn := wr_in ⟨by omega, by omega⟩
  have e2 : wr .i64 (p_s / 18446744073709551616 + q_s / 18446744073709551616) = p_s / 18446744073709551616 + q_s / 18446744073709551616 := wr_in ⟨by omega, by omega⟩
  have e3 : wr .i64 ((p_s % 18446744073709551616 + q_s % 18446744073709551616 + 0) / 18446744073709551616) = (p_s % 18446744073709551616 + q_s % 18446744073709551616 + 0) / 18446744073709551616 := wr_in ⟨by omega, by omega⟩
  have e4 : wr .i64 (p_s / 18446744073709551616 + q_s / 18446744073709551616 + (p_s % 18446744073709551616 + q_s % 18446744073709551616 + 0) / 18446744073709551616) = (p_s + q_s) / 18446744073709551616 := by
    rw [wr_in ⟨by omega, by omega⟩]; omega
  have e5 : (p_s % 18446744073709551616 + q_s % 18446744073709551616 + 0) % 18446744073709551616 = (p_s + q_s) % 18446744073709551616 := by omega
  simp only [Qd.ac, Qd.add, e1, e2, e3, e4, e5]
  rfl

def sumN : List Qd → Int
  | [] => 0
  | q :: l => q.n + sumN l
def sumS : List Qd → Int
  | [] => 0
  | q :: l => q.s + sumS l

theorem sumN_app : ∀ l m : List Qd, sumN (l ++ m) = sumN l + sumN m
  | [], m => by simp [sumN]
  | q :: l, m => by simp only [List.cons_append, sumN, sumN_app l m]; omega
theorem sumS_app : ∀ l m : List Qd, sumS (l ++ m) = sumS l + sumS m
  | [], m => by simp [sumS]
  | q :: l, m => by simp only [List.cons_append, sumS, sumS_app l m]; omega

theorem sumN_ge : ∀ l : List Qd, (∀ q ∈ l, q.ok) → (l.length : Int) ≤ sumN l
  | [], _ => by simp [sumN]
  | q :: l, h => by
    have h1 := (h q (by simp)).1
    have h2 := sumN_ge l fun p hp => h p (by simp [hp])
    simp only [List.length_cons, sumN]; omega

/-- what all are together -/
structure Total (qs : List Qd) (t : Qd) : Prop where
  n : sumN qs = t.n
  s : sumS qs = t.s
  a : (∃ q ∈ qs, q.a = t.a) ∧ ∀ q ∈ qs, t.a ≤ q.a
  b : (∃ q ∈ qs, q.b = t.b) ∧ ∀ q ∈ qs, q.b ≤ t.b

/-- Two neighbours merged, in whatever order: together they are the same. -/
theorem Total.step {l m : List Qd} {p q r t : Qd} (h : Total (l ++ p :: q :: m) t) (hr : r = p.add q ∨ r = q.add p) : Total (l ++ r :: m) t := by
  have hn : r.n = p.n + q.n := by rcases hr with rfl | rfl <;> simp only [Qd.add] <;> omega
  have hs : r.s = p.s + q.s := by rcases hr with rfl | rfl <;> simp only [Qd.add] <;> omega
  have ha : (r.a = p.a ∨ r.a = q.a) ∧ r.a ≤ p.a ∧ r.a ≤ q.a := by
    rcases hr with rfl | rfl
    · show ((if q.a < p.a then q.a else p.a) = p.a ∨ (if q.a < p.a then q.a else p.a) = q.a) ∧ (if q.a < p.a then q.a else p.a) ≤ p.a ∧ (if q.a < p.a then q.a else p.a) ≤ q.a
      by_cases c : q.a < p.a
      · rw [if_pos c]; exact ⟨.inr rfl, by omega, by omega⟩
      · rw [if_neg c]; exact ⟨.inl rfl, by omega, by omega⟩
    · show ((if p.a < q.a then p.a else q.a) = p.a ∨ (if p.a < q.a then p.a else q.a) = q.a) ∧ (if p.a < q.a then p.a else q.a) ≤ p.a ∧ (if p.a < q.a then p.a else q.a) ≤ q.a
      by_cases c : p.a < q.a
      · rw [if_pos c]; exact ⟨.inl rfl, by omega, by omega⟩
      · rw [if_neg c]; exact ⟨.inr rfl, by omega, by omega⟩
  have hb : (r.b = p.b ∨ r.b = q.b) ∧ p.b ≤ r.b ∧ q.b ≤ r.b := by
    rcases hr with rfl | rfl
    · show ((if p.b < q.b then q.b else p.b) = p.b ∨ (if p.b < q.b then q.b else p.b) = q.b) ∧ p.b ≤ (if p.b < q.b then q.b else p.b) ∧ q.b ≤ (if p.b < q.b then q.b else p.b)
      by_cases c : p.b < q.b
      · rw [if_pos c]; exact ⟨.inr rfl, by omega, by omega⟩
      · rw [if_neg c]; exact ⟨.inl rfl, by omega, by omega⟩
    · show ((if q.b < p.b then p.b else q.b) = p.b ∨ (if q.b < p.b then p.b else q.b) = q.b) ∧ p.b ≤ (if q.b < p.b then p.b else q.b) ∧ q.b ≤ (if q.b < p.b then p.b else q.b)
      by_cases c : q.b < p.b
      · rw [if_pos c]; exact ⟨.inl rfl, by omega, by omega⟩
      · rw [if_neg c]; exact ⟨.inr rfl, by omega, by omega⟩
  obtain ⟨a1, a2⟩ := h.a
  obtain ⟨b1, b2⟩ := h.b
  refine ⟨?_, ?_, ⟨?_, fun x hx => ?_⟩, ⟨?_, fun x hx => ?_⟩⟩
  · have := h.n
    simp only [sumN_app, sumN] at this ⊢; omega
  · have := h.s
    simp only [sumS_app, sumS] at this ⊢; omega
  · obtain ⟨x, hx, e⟩ := a1
    simp only [List.mem_append, List.mem_cons] at hx
    have := a2 p (by simp); have := a2 q (by simp)
    rcases hx with hx | rfl | rfl | hx
    · exact ⟨x, by simp [hx], e⟩
    · exact ⟨r, by simp, by omega⟩
    · exact ⟨r, by simp, by omega⟩
    · exact ⟨x, by simp [hx], e⟩
  · simp only [List.mem_append, List.mem_cons] at hx
    have := a2 p (by simp); have := a2 q (by simp)
    rcases hx with hx | rfl | hx
    · exact a2 x (by simp [hx])
    · omega
    · exact a2 x (by simp [hx])
  · obtain ⟨x, hx, e⟩ := b1
    simp only [List.mem_append, List.mem_cons] at hx
    have := b2 p (by simp); have := b2 q (by simp)
    rcases hx with hx | rfl | rfl | hx
    · exact ⟨x, by simp [hx], e⟩
    · exact ⟨r, by simp, by omega⟩
    · exact ⟨r, by simp, by omega⟩
    · exact ⟨x, by simp [hx], e⟩
  · simp only [List.mem_append, List.mem_cons] at hx
    have := b2 p (by simp); have := b2 q (by simp)
    rcases hx with hx | rfl | hx
    · exact b2 x (by simp [hx])
    · omega
    · exact b2 x (by simp [hx])

/-- One more behind. -/
theorem Total.snoc {l : List Qd} {t r : Qd} (h : Total l t) : Total (l ++ [r]) (t.add r) := by
  obtain ⟨a1, a2⟩ := h.a
  obtain ⟨b1, b2⟩ := h.b
  obtain ⟨x, hx, ex⟩ := a1
  obtain ⟨y, hy, ey⟩ := b1
  refine ⟨by simp only [sumN_app, sumN, h.n, Qd.add]; omega, by simp only [sumS_app, sumS, h.s, Qd.add]; omega, ?_, ?_⟩
  · show (∃ q ∈ l ++ [r], q.a = if r.a < t.a then r.a else t.a) ∧ ∀ q ∈ l ++ [r], (if r.a < t.a then r.a else t.a) ≤ q.a
    by_cases c : r.a < t.a
    · rw [if_pos c]
      refine ⟨⟨r, by simp, rfl⟩, fun q hq => ?_⟩
      simp only [List.mem_append, List.mem_singleton] at hq
      rcases hq with hq | rfl
      · have := a2 q hq; omega
      · omega
    · rw [if_neg c]
      refine ⟨⟨x, by simp [hx], ex⟩, fun q hq => ?_⟩
      simp only [List.mem_append, List.mem_singleton] at hq
      rcases hq with hq | rfl
      · exact a2 q hq
      · omega
  · show (∃ q ∈ l ++ [r], q.b = if t.b < r.b then r.b else t.b) ∧ ∀ q ∈ l ++ [r], q.b ≤ (if t.b < r.b then r.b else t.b)
    by_cases c : t.b < r.b
    · rw [if_pos c]
      refine ⟨⟨r, by simp, rfl⟩, fun q hq => ?_⟩
      simp only [List.mem_append, List.mem_singleton] at hq
      rcases hq with hq | rfl
      · have := b2 q hq; omega
      · omega
    · rw [if_neg c]
      refine ⟨⟨y, by simp [hy], ey⟩, fun q hq => ?_⟩
      simp only [List.mem_append, List.mem_singleton] at hq
      rcases hq with hq | rfl
      · exact b2 q hq
      · omega

theorem total_single (q : Qd) : Total [q] q := ⟨by simp [sumN], by simp [sumS], ⟨⟨q, by simp, rfl⟩, fun x hx => by simp at hx; rw [hx]; exact Int.le_refl _⟩, ⟨⟨q, by simp, rfl⟩, fun x hx => by simp at hx; rw [hx]; exact Int.le_refl _⟩⟩

theorem total_one {q t : Qd} (h : Total [q] t) : q = t := by
  obtain ⟨h1, h2, ⟨⟨x, hx, ex⟩, _⟩, ⟨y, hy, ey⟩, _⟩ := h
  simp only [List.mem_singleton] at hx hy
  rw [hx] at ex; rw [hy] at ey
  simp only [sumN, sumS] at h1 h2
  obtain ⟨n, s, a, b⟩ := q
  obtain ⟨n', s', a', b'⟩ := t
  simp only at h1 h2 ex ey
  simp only [Qd.mk.injEq]
  omega

end Go.Proofs.Ytebpekgijakonaa
