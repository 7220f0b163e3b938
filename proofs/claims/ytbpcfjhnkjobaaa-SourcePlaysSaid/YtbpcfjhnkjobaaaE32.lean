/- Tables of slices whose rows hold slices. -/
import Derived.Test.YtbpcfjhnkjobaaaE31
namespace Go.Proofs.Ytbpcfjhnkjobaaa.Ab
open Go.ChangeShapes Go.WideShapes

variable {P : Program} {H : Type} {enc : TypeId × Value → H} {w : World}

/-- a slice, and the slices that stand in one of its columns -/
def val2 (w : World) (v : Value) (st j0 : Nat) (t p : Nat) : Value := match t with
  | 0 => v
  | _ => if p < gL v then cellAt w v (p * st + j0) else .slice none 0 0
def two {α : Type} (a b : α) (t : Nat) : α := match t with
  | 0 => a
  | _ => b
def ch2 (t _ : Nat) : Nat := match t with
  | 0 => 1
  | _ => 0

theorem tabs2 {e e' : TypeId} {ks ks' : List CK} {j0 : Nat} (hk : kinds P 20 e = some ks ∧ P.cellsOf e = ks.length ∧ 0 < ks.length) (hk' : kinds P 20 e' = some ks' ∧ P.cellsOf e' = ks'.length ∧ 0 < ks'.length) {v : Value} (ho : OpenC enc P w (.slice e) v)
    (hj : ks[j0]? = some (.slice e')) (only : ∀ j e'', ks[j]? = some (.slice e'') → j = j0) (none' : ∀ (j : Nat) (e'' : TypeId), ks'[j]? ≠ some (.slice e'')) : Tabs enc P w (val2 w v ks.length j0) (two e e') (two ks ks') ch2 := by
  refine ⟨fun t => ?_, fun t p => ?_, fun t p i j e'' hi hj' => ?_⟩
  · cases t with
    | zero => exact hk
    | succ t => exact hk'
  · cases t with
    | zero => exact ho
    | succ t =>
      show OpenC enc P w (.slice e') (if p < gL v then cellAt w v (p * ks.length + j0) else .slice none 0 0)
      by_cases hp : p < gL v
      · rw [if_pos hp]
        rcases ho with rfl | ⟨a, len, cap, fuel, rfl, h2, h3, h4⟩
        · exact absurd hp (Nat.not_lt_zero _)
        · have hp' : p < len := hp
          obtain ⟨g1, g2, g3⟩ := row_cells hk.1 hk.2.1 hk.2.2 h4 (by omega)
          obtain ⟨c, c1, c2⟩ := g3 p j0 _ (by omega) hj
          have : cellAt w (.slice (some a) len cap) (p * ks.length + j0) = c := by simp only [cellAt, gA, c1, Option.getD_some]
          rw [this]; exact c2
      · rw [if_neg hp]; exact .inl rfl
  · cases t with
    | zero =>
      have := only j e'' hj'
      subst this
      show (if i < gL v then cellAt w v (i * ks.length + j) else .slice none 0 0) = cellAt w v (i * ks.length + j)
      rw [if_pos (show i < gL v from hi)]
    | succ t => exact absurd hj' (none' j e'')

theorem sublen_length (w : World) (v : Value) (st j : Nat) : (sublen w v st j).length = gL v := by simp [sublen]
theorem subnil_length (w : World) (v : Value) (st j : Nat) : (subnil w v st j).length = gL v := by simp [subnil]

end Go.Proofs.Ytbpcfjhnkjobaaa.Ab
