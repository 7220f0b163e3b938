/- send: SendOrder: plain laws: what a push, a sending, a coming, an answer do to what holds. -/
import Derived.Test.YtoahbijmemgghaaD20o
set_option linter.unusedSimpArgs false
namespace Go.Proofs.Ytoahbijmemgghaa
open Ab

/-- what holds, as a proposition -/
structure Hold (i p k b m : Int) (n : Nat) (l es an rs tk : List Int) (f q : Int) : Prop where
  hk : newOk k = true
  pi : p ≤ i
  i2 : i ≤ 300
  bn : b + (n : Int) = p
  nk : (n : Int) ≤ k
  hl : l = seqs b n
  b0 : 0 ≤ b
  bf : b ≤ f
  fp : f ≤ p
  q0 : 0 ≤ q
  qk : q ≤ k
  hes : ∀ e ∈ es, 0 ≤ e ∧ e < p
  han : ∀ a ∈ an, 0 ≤ a ∧ a ≤ f
  hrs : ∀ r ∈ rs, 0 ≤ r ∧ r ≤ k
  ar : an.length = rs.length
  ai : (an.length : Int) ≤ i
  ei : (es.length : Int) ≤ i
  htk : tk = rng f.toNat
  m0 : 0 ≤ m
  mm : m ≤ 10000

theorem inv_iff {i p k b m : Int} {n : Nat} {l es an rs tk : List Int} {f q : Int} : inv i p k b m n l es an rs tk f q = true ↔ Hold i p k b m n l es an rs tk f q := by
  simp only [inv, Bool.and_eq_true, decide_eq_true_eq, List.all_eq_true]
  constructor
  · rintro ⟨h1, h2, h3, h4, h5, h6, h7, h8, h9, h10, h11, h12, h13, h14, h15, h16, h17, h18, h19, h20⟩
    exact ⟨h1, h2, h3, h4, h5, h6, h7, h8, h9, h10, h11, h12, h13, h14, h15, h16, h17, h18, h19, h20⟩
  · rintro ⟨h1, h2, h3, h4, h5, h6, h7, h8, h9, h10, h11, h12, h13, h14, h15, h16, h17, h18, h19, h20⟩
    exact ⟨h1, h2, h3, h4, h5, h6, h7, h8, h9, h10, h11, h12, h13, h14, h15, h16, h17, h18, h19, h20⟩

theorem rng_len (n : Nat) : (rng n).length = n := by simp [rng]
theorem rng_succ (n : Nat) : rng (n + 1) = rng n ++ [(n : Int)] := by simp [rng, List.range_succ]
theorem seqs_len (b : Int) (n : Nat) : (seqs b n).length = n := by simp [seqs]
theorem seqs_succ (b : Int) (n : Nat) : seqs b (n + 1) = seqs b n ++ [b + (n : Int)] := by simp [seqs, List.range_succ]
theorem seqs_get (b : Int) {n j : Nat} (h : j < n) : (seqs b n).getD j 0 = b + (j : Int) := by simp [seqs, List.getD_eq_getElem?_getD, h]
theorem seqs_drop (b : Int) (n g : Nat) : (seqs b n).drop g = seqs (b + (g : Int)) (n - g) := by
  apply List.ext_getElem
  · simp [seqs]
  · intro j h1 h2
    simp [seqs]; omega

section
variable {i p k b m : Int} {n : Nat} {l es an rs tk : List Int} {f q : Int}

theorem Hold.up (h : Hold i p k b m n l es an rs tk f q) (hi : i < 200) : Hold (i + 1) p k b m n l es an rs tk f q :=
  { h with pi := by have := h.pi; omega, i2 := by have := h.i2; omega, ai := by have := h.ai; omega, ei := by have := h.ei; omega }

theorem Hold.push (h : Hold i p k b m n l es an rs tk f q) (hi : i < 200) (hn : (n : Int) < k) : Hold (i + 1) (p + 1) k b m (n + 1) (l ++ [p]) es an rs tk f q :=
  { h with
    pi := by have := h.pi; omega
    i2 := by have := h.i2; omega
    bn := by have := h.bn; omega
    nk := by omega
    hl := by rw [seqs_succ, h.hl, h.bn]
    fp := by have := h.fp; omega
    hes := fun e he => by have := h.hes e he; omega
    ai := by have := h.ai; omega
    ei := by have := h.ei; omega }

theorem Hold.el (h : Hold i p k b m n l es an rs tk f q) (hl : (es.length : Int) < i) {e : Int} (h0 : 0 ≤ e) (he : e < p) : Hold i p k b m n l (es ++ [e]) an rs tk f q :=
  { h with
    hes := fun x hx => by
      rcases List.mem_append.1 hx with hx | hx
      · exact h.hes x hx
      · simp only [List.mem_singleton] at hx; subst hx; exact ⟨h0, he⟩
    ei := by simp only [List.length_append, List.length_cons, List.length_nil]; omega }

theorem Hold.ans (h : Hold i p k b m n l es an rs tk f q) (hl : (an.length : Int) < i) : Hold i p k b m n l es (an ++ [f]) (rs ++ [k - q]) tk f q :=
  { h with
    han := fun x hx => by
      rcases List.mem_append.1 hx with hx | hx
      · exact h.han x hx
      · simp only [List.mem_singleton] at hx; subst hx; exact ⟨by have := h.b0; have := h.bf; omega, Int.le_refl _⟩
    hrs := fun x hx => by
      rcases List.mem_append.1 hx with hx | hx
      · exact h.hrs x hx
      · simp only [List.mem_singleton] at hx; subst hx; have := h.q0; have := h.qk; omega
    ar := by simp [h.ar]
    ai := by simp only [List.length_append, List.length_cons, List.length_nil]; omega }

theorem Hold.take (h : Hold i p k b m n l es an rs tk f q) (hf : f < p) (hq : q < k) : Hold i p k b m n l es an rs (tk ++ [f]) (f + 1) (q + 1) :=
  { h with
    bf := by have := h.bf; omega
    fp := by omega
    q0 := by have := h.q0; omega
    qk := by omega
    han := fun x hx => by have := h.han x hx; omega
    htk := by
      have f0 : 0 ≤ f := by have := h.b0; have := h.bf; omega
      rw [show (f + 1).toNat = f.toNat + 1 by omega, rng_succ, ← h.htk, Int.toNat_of_nonneg f0] }

theorem Hold.pop (h : Hold i p k b m n l es an rs tk f q) (hq : 0 < q) : Hold i p k b m n l es an rs tk f (q - 1) :=
  { h with q0 := by omega, qk := by have := h.qk; omega }
theorem Hold.empty (h : Hold i p k b m n l es an rs tk f q) : Hold i p k b m n l es an rs tk f 0 :=
  { h with q0 := Int.le_refl 0, qk := by have := h.q0; have := h.qk; omega }
end

/-- an answer comes -/
theorem Hold.ack {i p k : Int} {x : Sd} {es an rs tk : List Int} {f q a r : Int} (hx : okSd x = true) (hk : x.k = k) (h : Hold i p k x.b x.m x.n x.l es an rs tk f q) (ha : 0 ≤ a ∧ a ≤ f) (hr : 0 ≤ r ∧ r ≤ k) :
    ackE x.n x.k x.b a r = 0 ∧ okSd (x.ack a r) = true ∧ (x.ack a r).k = k ∧ Hold i p k (x.ack a r).b (x.ack a r).m (x.ack a r).n (x.ack a r).l es an rs tk f q ∧ (x.ack a r).b = maxI x.b a := by
  have h1 := h.bn
  have h2 := h.fp
  have h3 := h.pi
  have h4 := h.i2
  have h5 := h.b0
  have h6 := h.bf
  have h7 := h.mm
  have h8 := h.m0
  obtain ⟨g1, g2⟩ : 1 ≤ k ∧ k ≤ 16 := by have := h.hk; simp only [newOk, Bool.and_eq_true, decide_eq_true_eq] at this; exact this
  have hb : badA x.n x.k x.b a r ≠ true := fun hh => by have := badA_iff.1 hh; omega
  have A := (After.refl hx h7).ack (i := a) (r := r) (by omega) ha.1
  have A' := (After.refl hx h7).b' a r
  have hbf : badA x.n x.k x.b a r = false := by cases hh : badA x.n x.k x.b a r with
    | false => rfl
    | true => exact absurd hh hb
  rw [hbf] at A'
  have eb : (x.ack a r).b = maxI x.b a := A'.1
  have em : (x.ack a r).m = maxI x.m (a + r) := A'.2
  have e1 := A.e
  have e2 := A.b
  have nk := h.nk
  refine ⟨by rw [ackE, if_neg hb], A.ok, by rw [A.k, hk], { h with bn := by omega, nk := by omega, hl := ?_, b0 := by omega, bf := ?_, m0 := ?_, mm := A.m }, eb⟩
  · rw [A.l, h.hl, seqs_drop]
    congr 1
    · omega
    · omega
  · rw [eb, maxI]; split <;> omega
  · rw [em, maxI]; split <;> omega

/-- what is sent next -/
theorem next_facts {i p k : Int} {x : Sd} {es an rs tk : List Int} {f q : Int} (h : Hold i p k x.b x.m x.n x.l es an rs tk f q) (hn : 0 < x.n) (j : Int) :
    nTime x.l x.b x.m j = nSeq x.n x.b x.m j ∧ x.b ≤ nSeq x.n x.b x.m j ∧ nSeq x.n x.b x.m j < p := by
  obtain ⟨a1, a2⟩ := at_lt x.n x.b x.m j hn
  have hb := h.bn
  have e1 : nSeq x.n x.b x.m j = x.b + atN x.n x.b x.m j := by rw [nSeq, if_neg (by omega)]
  have hl : x.l.length = x.n := by rw [h.hl, seqs_len]
  refine ⟨?_, by omega, by omega⟩
  rw [nTime, hl, if_neg (by omega), h.hl, seqs_get _ (by omega), e1]
  omega

/-! Rows that grow. -/
theorem elB_app (es : List Int) (e : Int) : (.segs [⟨es.length + 1, 1, [.int .u64 (List.take es.length (List.drop 0 es) ++ List.take 1 (List.drop 0 [e]))]⟩] : Blk) = elB (es ++ [e]) := by
  simp [elB]
theorem tkB_app (es : List Int) (e : Int) : (.segs [⟨es.length + 1, 1, [.int .i64 (List.take es.length (List.drop 0 es) ++ List.take 1 (List.drop 0 [e]))]⟩] : Blk) = tkB (es ++ [e]) := by
  simp [tkB]
theorem anB_app {an rs : List Int} (h : an.length = rs.length) (e r : Int) : (.segs [⟨an.length + 1, 2, [.int .u64 (List.take an.length (List.drop 0 an) ++ List.take 1 (List.drop 0 [e])), .int .u64 (List.take an.length (List.drop 0 rs) ++ List.take 1 (List.drop 0 [r]))]⟩] : Blk) = anB (an ++ [e]) (rs ++ [r]) := by
  have e1 : List.take an.length (List.drop 0 an) = an := by simp
  have e2 : List.take an.length (List.drop 0 rs) = rs := by rw [h]; simp
  rw [e1, e2]
  simp [anB]
theorem len_app (es : List Int) (e : Int) : (es ++ [e]).length = es.length + 1 := by simp

end Go.Proofs.Ytoahbijmemgghaa
