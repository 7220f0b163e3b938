/- send: what answers make of a sender. -/
import Derived.Test.YtoahbijmemgghaaP20w
set_option linter.unusedSimpArgs false
namespace Go.Proofs.Ytoahbijmemgghaa
open Ab

theorem cap_self (c : Option Nat) : sameCap c c = true := by
  cases c <;> simp [sameCap]

/-- one sender behind another one: answers came -/
structure After (x0 x : Sd) : Prop where
  ok : okSd x = true
  k : x.k = x0.k
  b : x0.b ≤ x.b
  e : x.b + (x.n : Int) = x0.b + (x0.n : Int)
  l : x.l = x0.l.drop (x.b - x0.b).toNat
  m : x.m ≤ 10000
  n0 : x0.n ≤ 1000

theorem After.refl {x : Sd} (h : okSd x = true) (hm : x.m ≤ 10000) : After x x :=
  ⟨h, rfl, Int.le_refl _, rfl, by simp, hm, (okSd_iff.1 h).1.1⟩

theorem ack_bad {x : Sd} {i r : Int} (h : badA x.n x.k x.b i r = true) : x.ack i r = x := by rw [Sd.ack, if_pos h]
theorem ack_good {x : Sd} {i r : Int} (h : badA x.n x.k x.b i r ≠ true) : x.ack i r = ⟨x.ts, x.o + gone x.b i, x.n - gone x.b i, if x.b < i then some (x.n - gone x.b i) else x.c, x.k, maxI x.b i, maxI x.m (i + r)⟩ := by rw [Sd.ack, if_neg h]

theorem After.ack {x0 x : Sd} (h : After x0 x) (h0 : x0.b ≤ 1000) {i r : Int} (hi : 0 ≤ i) : After x0 (x.ack i r) := by
  by_cases hb : badA x.n x.k x.b i r = true
  · rw [ack_bad hb]; exact h
  · have hb' : ¬ (x.b + (x.n : Int) < i ∨ r < 0 ∨ x.k < r) := fun hh => hb (badA_iff.2 hh)
    obtain ⟨⟨h1, h2, h3, h4, h5, h6, h7⟩, h8, h9⟩ := okSd_iff.1 h.ok
    have hk := h.k
    have hbb := h.b
    have he := h.e
    have hl := h.l
    have hm := h.m
    have hn0 := h.n0
    rw [ack_good hb]
    have hg : (gone x.b i : Int) = if x.b < i then i - x.b else 0 := by rw [gone]; split <;> omega
    have hgn : gone x.b i ≤ x.n := by split at hg <;> omega
    have hbi : maxI x.b i = x.b + (gone x.b i : Int) := by rw [maxI, hg]; split <;> omega
    refine ⟨okSd_iff.2 ⟨⟨?_, h2, h3, ?_, ?_, ?_, ?_⟩, ?_, ?_⟩, hk, ?_, ?_, ?_, ?_, hn0⟩
    · show x.n - gone x.b i ≤ 1000; omega
    · show 0 ≤ maxI x.b i; omega
    · show maxI x.b i ≤ 1000000; omega
    · show 0 ≤ maxI x.m (i + r); rw [maxI]; split <;> omega
    · show maxI x.m (i + r) ≤ 1000000000; rw [maxI]; split <;> omega
    · show x.o + gone x.b i + (x.n - gone x.b i) ≤ x.ts.length; omega
    · show (if x.b < i then some (x.n - gone x.b i) else x.c) = none ∨ (if x.b < i then some (x.n - gone x.b i) else x.c) = some (x.n - gone x.b i)
      split
      · exact .inr rfl
      · have : gone x.b i = 0 := by rw [if_neg (by assumption)] at hg; omega
        rw [this]; exact h9
    · show x0.b ≤ maxI x.b i; omega
    · show maxI x.b i + ((x.n - gone x.b i : Nat) : Int) = _; omega
    · show List.take (x.n - gone x.b i) (List.drop (x.o + gone x.b i) x.ts) = _
      have e2 : (maxI x.b i - x0.b).toNat = (x.b - x0.b).toNat + gone x.b i := by omega
      show _ = List.drop (maxI x.b i - x0.b).toNat x0.l
      have e3 : List.drop ((x.b - x0.b).toNat + gone x.b i) x0.l = List.drop (gone x.b i) x.l := by rw [hl, List.drop_drop]
      rw [e2, e3, Sd.l, List.drop_take, List.drop_drop]
    · show maxI x.m (i + r) ≤ 10000; rw [maxI]; split <;> omega

/-- whether an answer is refused hangs on the end, and on the capacity, alone -/
theorem After.bad {x0 x : Sd} (h : After x0 x) (i r : Int) : badA x.n x.k x.b i r = badA x0.n x0.k x0.b i r := by
  rw [badA, badA, h.e, h.k]
theorem After.e' {x0 x : Sd} (h : After x0 x) (i r : Int) : ackE x.n x.k x.b i r = ackE x0.n x0.k x0.b i r := by
  rw [ackE, ackE, h.bad]
theorem After.b' {x0 x : Sd} (h : After x0 x) (i r : Int) : (x.ack i r).b = fB (badA x0.n x0.k x0.b i r) x.b i ∧ (x.ack i r).m = fB (badA x0.n x0.k x0.b i r) x.m (i + r) := by
  rw [← h.bad i r]
  by_cases hb : badA x.n x.k x.b i r = true
  · rw [ack_bad hb, hb]; exact ⟨rfl, rfl⟩
  · rw [ack_good hb, fB, fB, if_neg hb, if_neg hb]; exact ⟨rfl, rfl⟩
theorem fB_comm (p q : Bool) (v i j : Int) : fB q (fB p v i) j = fB q (fB p (fB q v j) i) j := by
  cases p <;> cases q <;> simp only [fB, maxI, Bool.false_eq_true, if_false, if_true] <;> (repeat' split) <;> omega

end Go.Proofs.Ytoahbijmemgghaa
