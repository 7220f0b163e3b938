/- oper: drafts. -/
import Derived.Test.YtbfebjmmpiffpaaP04a
set_option linter.unusedSimpArgs false
set_option linter.unusedVariables false
namespace Go.Proofs.Ytbfebjmmpiffpaa
open Ab

section
variable {E : Nat → Nat → Seg} {ra : Nat → Nat → Nat × Nat} {base : Nat}

def EndsD (d : Dr) (y : State) : Prop := ∃ c, y = (.ret, mkT 1 [(0, .agg c)], []) ∧ AVal.agg c = (drO d).v
theorem endsD {d : Dr} {k a b g : Int} (h : drO d = ⟨k, a, b, g⟩) : EndsD d (.ret, mkT 1 [(0, .agg [.int .i64 k, .int .i64 a, .int .i64 b, .int .i64 g])], []) := ⟨_, rfl, by rw [h]; rfl⟩
theorem drO_even {w a b g : Int} {K : Int} (h : wr .i64 (Int.tmod w 8) = K) {A B G : Int} (h1 : Dr.A ⟨w, a, b, g, false⟩ K = A) (h2 : Dr.B ⟨w, a, b, g, false⟩ K = B) (h3 : Dr.G ⟨w, a, b, g, false⟩ K = G) : drO ⟨w, a, b, g, false⟩ = ⟨K, A, B, G⟩ := by
  rw [drO, if_neg (by simp only; decide)]
  show (⟨Dr.K _, Dr.A _ (Dr.K _), Dr.B _ (Dr.K _), Dr.G _ (Dr.K _)⟩ : Op4) = _
  rw [show Dr.K ⟨w, a, b, g, false⟩ = K from h, h1, h2, h3]

theorem A2_ne (d : Dr) : d.A2 ≠ 0 := by
  have h1 : ∀ x : Int, -20 < Int.tmod x 20 ∧ Int.tmod x 20 < 20 := fun x => by
    rcases Int.le_total 0 x with h | h
    · rw [Int.tmod_eq_emod_of_nonneg h]; omega
    · have e : Int.tmod x 20 = -((-x) % 20) := by rw [← Int.tmod_eq_emod_of_nonneg (by omega), Int.neg_tmod, Int.neg_neg]
      rw [e]; omega
  obtain ⟨h2, h3⟩ := h1 d.a
  have h4 : wr .i64 (Int.tmod d.a 20 + 20) = Int.tmod d.a 20 + 20 := wr_in ⟨by omega, by omega⟩
  have h5 : 0 ≤ modI d.a 20 ∧ modI d.a 20 < 20 := by
    rw [modI, h4]
    rw [Int.tmod_eq_emod_of_nonneg (by omega)]
    omega
  have h6 : wr .i64 (1 + modI d.a 20) = 1 + modI d.a 20 := wr_in ⟨by omega, by omega⟩
  rw [Dr.A2, h6]
  omega

theorem drafted_g (hE : Plain E) (d : Dr) : Gives Try.prog E ra base 0 8 [d.v] (hp 0 []) fun v h' => v = (drO d).v ∧ h' = hp 0 [] := by
  obtain ⟨w, a, b, g, odd⟩ := d
  refine (gives_of_tree hE (wE hE sumNone_ok) sumNone_ok (hp_below _) (drafted E w a b g odd) (Tree.holds_mono (Q := EndsD ⟨w, a, b, g, odd⟩) (fun y h => by obtain ⟨c, rfl, h⟩ := h; exact ⟨_, rfl, h, rfl⟩) ?_)).2
  cases odd with
  | true => exact ⟨fun _ => endsD rfl, fun h => by cases h⟩
  | false =>
    refine ⟨fun h => (by cases h), fun _ => ?_⟩
    have hA : wr .i64 (1 + Int.tmod (wr .i64 (Int.tmod a 20 + 20)) 20) ≠ 0 := A2_ne ⟨w, a, b, g, false⟩
    have hK : ∀ K, wr .i64 (Int.tmod w 8) = K → ∀ A B G, Dr.A ⟨w, a, b, g, false⟩ K = A → Dr.B ⟨w, a, b, g, false⟩ K = B → Dr.G ⟨w, a, b, g, false⟩ K = G → EndsD ⟨w, a, b, g, false⟩ (.ret, mkT 1 [(0, .agg [.int .i64 K, .int .i64 A, .int .i64 B, .int .i64 G])], []) := fun K h A B G h1 h2 h3 => endsD (drO_even h h1 h2 h3)
    generalize wr .i64 (Int.tmod w 8) = K at hK ⊢
    replace hK := hK K rfl
    simp only [Tree.holds, decide_true, Bool.and_self, Bool.and_true, Bool.true_and, true_and, decide_eq_true_eq, decide_eq_false_iff_not, Bool.not_eq_true', Bool.not_eq_false']
    repeat' first
      | apply And.intro
      | intro
    all_goals first
      | exact hA
      | assumption
      | (exfalso; omega)
      | (subst K; exact hK _ _ _ rfl rfl rfl)
      | (refine hK _ _ _ ?_ ?_ ?_ <;> simp only [Dr.A, Dr.B, Dr.G] <;> (repeat rw [if_neg (by omega)]) <;> rfl)
end
end Go.Proofs.Ytbfebjmmpiffpaa
