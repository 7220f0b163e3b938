/- oper: lists of records and of operators, and their fields; what an operator makes. -/
import Derived.Test.YtbfebjmmpiffpaaP04e
import Derived.Test.YtbfebjmmpiffpaaD04c
set_option linter.unusedSimpArgs false
set_option linter.unusedVariables false
namespace Go.Proofs.Ytbfebjmmpiffpaa
open Ab

theorem cap_self (c : Option Nat) : sameCap c c = true := by cases c <;> simp [sameCap]

theorem toL_of (l : List Rc) : toL (Rs.of l) = l := by
  refine List.ext_getElem (by simp [toL, Rs.of]) fun i h1 h2 => ?_
  simp [toL, Rs.of, List.getD_eq_getElem?_getD, h2]
theorem lens_of (l : List Rc) : lensR (Rs.of l) = true := by simp [lensR, Rs.of]
theorem toL_len (L : Rs) : (toL L).length = L.ks.length := by simp [toL]
theorem map_getD {α : Type} {l : List α} {n : Nat} (h : l.length = n) (d : α) : (List.range n).map (fun i => l.getD i d) = l := by
  refine List.ext_getElem (by simp [h]) fun i h1 h2 => ?_
  simp [List.getD_eq_getElem?_getD, h2]
theorem of_toL {L : Rs} (h : lensR L = true) : Rs.of (toL L) = L := by
  simp only [lensR, Bool.and_eq_true, decide_eq_true_eq] at h
  obtain ⟨h1, h2, h3, h4, h5⟩ := h
  obtain ⟨a, b, c, d, e, f⟩ := L
  simp only at h1 h2 h3 h4 h5
  simp only [Rs.of, toL, List.map_map, Rs.mk.injEq]
  exact ⟨map_getD rfl 0, map_getD h1 0, map_getD h2 0, map_getD h3 0, map_getD h4 false, map_getD h5 false⟩

theorem toO_len (o : Os) : (toO o).length = o.kk.length := by simp [toO]
theorem toO_at {o : Os} {i : Nat} (h : i < o.kk.length) : (toO o)[i]? = some ⟨o.kk.getD i 0, o.aa.getD i 0, o.bb.getD i 0, o.gg.getD i 0⟩ := by simp [toO, h]
theorem toO_of (l : List Op4) : toO (Os.of l) = l := by
  refine List.ext_getElem (by simp [toO, Os.of]) fun i h1 h2 => ?_
  simp [toO, Os.of, List.getD_eq_getElem?_getD, h2]
theorem lensO_of (l : List Op4) : lensO (Os.of l) = true := by simp [lensO, Os.of]

theorem step_take {α β : Type} {f : α → β → α} {a : α} {l : List β} {i : Nat} {x : β} (h : l[i]? = some x) : (l.take (i + 1)).foldl f a = f ((l.take i).foldl f a) x := by
  rw [List.take_add_one, h]; simp
theorem flat_take {α β : Type} {f : α → List β} {l : List α} {i : Nat} {x : α} (h : l[i]? = some x) : (l.take (i + 1)).flatMap f = (l.take i).flatMap f ++ f x := by
  rw [List.take_add_one, h]; simp

theorem copies_len (x : Op4) : ∀ (m : Nat) (r : Rc), (copies x m r).length = m
  | 0, _ => rfl
  | m + 1, r => by rw [copies, List.length_cons, copies_len x m]

/-- an operator that does something -/
theorem does_iff {x : Op4} : doesB x = true ↔ mayB x = true ∧ classE x = 0 := by simp [doesB]
theorem does_kind {x : Op4} (h : doesB x = true) : (x.k = 0 ∨ x.k = 1 ∨ x.k = 2 ∨ x.k = 3) ∧ (x.k = 1 → 1 ≤ x.a ∧ x.a ≤ 4294967295) ∧ (x.k = 2 → 1 ≤ x.a ∧ x.a ≤ 1073741824) ∧ (x.k = 3 → x.a = 1 ∨ x.a = 2 ∨ x.a = 3) := by
  obtain ⟨h1, h2⟩ := does_iff.1 h
  obtain ⟨k, a, b, g⟩ := x
  have hk : 0 ≤ k ∧ k ≤ 3 := by
    by_cases hc : 0 ≤ k ∧ k ≤ 3
    · exact hc
    · rw [classE, if_neg hc] at h2
      split at h2
      · cases h2
      · split at h2 <;> cases h2
  simp only
  refine ⟨by omega, fun e => ?_, fun e => ?_, fun e => ?_⟩
  · subst e; have := may_iff1.1 h1; omega
  · subst e; have := may_iff2.1 h1; omega
  · subst e; have := may_iff3.1 h1; omega

theorem makes_len {x : Op4} (h : doesB x = true) (r : Rc) : (makes x r).length ≤ 3 := by
  obtain ⟨h1, h2, h3, h4⟩ := does_kind h
  unfold makes
  split
  · simp
  · split
    · simp
    · split
      · simp
      · split
        · split <;> simp
        · rw [copies_len]
          have := h4 (by omega)
          omega
theorem flat_len {x : Op4} (h : doesB x = true) : ∀ l : List Rc, (l.flatMap (makes x)).length ≤ 3 * l.length
  | [] => by simp
  | r :: l => by
    have h1 := makes_len h r
    have h2 := flat_len h l
    rw [List.flatMap_cons, List.length_append, List.length_cons]
    omega
theorem step_len (x : Op4) (l : List Rc) : (step x l).length ≤ 3 * l.length := by
  unfold step
  split
  · exact flat_len (by assumption) l
  · omega
theorem fold_len (r : Rc) : ∀ (ops : List Op4) (l : List Rc), (ops.foldl (fun l x => step x l) l).length ≤ 3 ^ ops.length * l.length
  | [], l => by simp
  | x :: ops, l => by
    have h1 := fold_len r ops (step x l)
    have h2 := step_len x l
    rw [List.foldl_cons, List.length_cons, Nat.pow_succ]
    calc _ ≤ 3 ^ ops.length * (step x l).length := h1
      _ ≤ 3 ^ ops.length * (3 * l.length) := Nat.mul_le_mul_left _ h2
      _ = _ := by rw [Nat.mul_assoc]
theorem fold_room {ops : List Op4} {r : Rc} (h : ops.length ≤ 12) : (ops.foldl (fun l x => step x l) [r]).length ≤ 1000000 := by
  have h1 := fold_len r ops [r]
  have h2 : 3 ^ ops.length ≤ 3 ^ 12 := Nat.pow_le_pow_right (by decide) h
  simp only [List.length_cons, List.length_nil] at h1
  omega

section
variable {E : Nat → Nat → Seg} {ra : Nat → Nat → Nat × Nat} {base : Nat}

theorem in_step (hE : Plain E) {x : Op4} (hx : doesB x = true) : InStep E ra base x := by
  intro f c l o i r hr hl hlo
  obtain ⟨h1, h2, h3, h4⟩ := does_kind hx
  obtain ⟨k, a, b, g⟩ := x
  simp only at h1 h2 h3 h4
  cases ho : fullB o with
  | true =>
    rcases h1 with rfl | rfl | rfl | rfl
    · exact in0S hE hr hl hlo ho
    · exact in1S hE (h2 rfl) hr hl hlo ho
    · exact in2S hE (h3 rfl) hr hl hlo ho
    · rcases h4 rfl with rfl | rfl | rfl
      · exact in3aS hE hr hl hlo ho
      · exact in3bS hE hr hl hlo ho
      · exact in3cS hE hr hl hlo ho
  | false =>
    obtain rfl := full_nil ho
    rcases h1 with rfl | rfl | rfl | rfl
    · exact in0N hE hr hl
    · exact in1N hE (h2 rfl) hr hl
    · exact in2N hE (h3 rfl) hr hl
    · rcases h4 rfl with rfl | rfl | rfl
      · exact in3aN hE hr hl
      · exact in3bN hE hr hl
      · exact in3cN hE hr hl
end
end Go.Proofs.Ytbfebjmmpiffpaa
