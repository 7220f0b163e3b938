/- align: AlignCuts: from the rows that are built to the end. -/
import Derived.Test.YtbdjcekekhgnkaaT24u
set_option linter.unusedSimpArgs false
namespace Go.Proofs.Ytbdjcekekhgnkaa
open Ab

theorem rowL_len {xs : List Int} (h : ∀ v ∈ xs, 0 ≤ v ∧ v < 256) : (rowL xs).length ≤ 25 := rowTo_len h 5

/-- all rows are such rows -/
def RowsOk (T : Tc) : Prop := ∃ X : Nat → List Int, ∀ k, k < T.F.length → rowAt T k = rowL (X k) ∧ ∀ v ∈ X k, 0 ≤ v ∧ v < 256

theorem rows_Fb {T : Tc} (h : Ways T) (n m : Nat) : RowsOk (T.put (Fb T n m)) := by
  have hin : ∀ j, ∀ v ∈ inX T j, 0 ≤ v ∧ v < 256 := fun j v hv => by
    unfold inX at hv; split at hv
    · cases hv
    · exact h.t.1 j v hv
  have hby : ∀ j, ∀ v ∈ byX T j, 0 ≤ v ∧ v < 256 := fun j v hv => by
    unfold byX at hv; split at hv
    · cases hv
    · exact h.t.2.1 j v hv
  refine ⟨fun k => if k < n then inX T k else byX T (k - n), fun k hk => ?_⟩
  have hk' : k < n + m := by rw [← Fb_len T n m]; exact hk
  show (Fb T n m).getD k [] = _ ∧ _
  by_cases hn : k < n
  · simp only [if_pos hn]
    refine ⟨?_, hin k⟩
    rw [Fb, List.getD_eq_getElem?_getD, List.getElem?_append_left (by rw [Fa_len]; exact hn)]
    simp [Fa, hn]
  · simp only [if_neg hn]
    refine ⟨?_, hby _⟩
    rw [Fb, List.getD_eq_getElem?_getD, List.getElem?_append_right (by rw [Fa_len]; omega), Fa_len]
    simp [show k - n < m by omega]

theorem inv_start {T : Tc} (hR : RowsOk T) {n m : Nat} (hn : 1 ≤ n) (hn4 : n ≤ 4) (hm : m ≤ 3) (hF : T.F.length = n + m) {O : AVal} (hO : okO O) :
    Inv T ⟨n, O, 0, newAl ⟨n, m, 0⟩, List.replicate (T.F.map List.length).length 0, T.F.map List.length, T.F.map fun _ => false, 0⟩ 0 := by
  obtain ⟨X, hX⟩ := hR
  have s : Shape (newAl ⟨n, m, 0⟩) n T.F.length := by
    refine ⟨?_, ?_, hn, by omega, rfl, rfl, by omega, rfl, by simp only [newAl]; omega⟩
    · simp only [newAl, Al.p, List.length_take, List.length_replicate]; omega
    · simp only [newAl, Al.q, List.length_take, List.length_replicate]; omega
  have hz : ∀ k : Nat, (List.replicate (T.F.map List.length).length (0 : Int)).getD k 0 = 0 := fun k => by
    rw [List.getD_eq_getElem?_getD, List.getElem?_replicate]; split <;> rfl
  have hb : ∀ k, k < T.F.length → blkd (newAl ⟨n, m, 0⟩) n k = false := fun k hk => by
    have hrep : ∀ q j : Nat, ((List.replicate 16 false).take q).getD j false = false := fun q j => by
      rw [List.take_replicate, List.getD_eq_getElem?_getD, List.getElem?_replicate]; split <;> rfl
    rcases Nat.lt_or_ge k n with h | h
    · rw [blkd_in s h]; exact hrep _ _
    · rw [blkd_by s h hk]; exact hrep _ _
  have hsum : (List.replicate (T.F.map List.length).length (0 : Int)).sum = 0 := by
    generalize (T.F.map List.length).length = q
    induction q with
    | zero => rfl
    | succ q ih => rw [List.replicate_succ, List.sum_cons, ih]; rfl
  refine ⟨⟨hO, rfl, rfl, by simp, by omega, hn, by show n ≤ _; omega, s.ok, s.xn, s.xm, ⟨by simp, by simp⟩, ⟨by simp [newAl], by simp [newAl]⟩, fun k hk => ?_⟩, s, rfl, by omega, ⟨X, fun k hk => ?_⟩, by simp only [hsum]; rfl, by omega⟩
  · obtain ⟨h1, h2⟩ := hX k hk
    have := rowL_len h2
    simp only [hz]
    rw [h1]; omega
  · obtain ⟨h1, h2⟩ := hX k hk
    have h3 := pos_lt (X k) 0
    have h4 : pos (X k) 0 = 0 := rfl
    simp only [hz]
    refine ⟨h1, rowL_len h2, by omega, by omega, ?_⟩
    rw [hb k hk]
    exact ⟨fun h => (by cases h), fun h => by omega⟩

section
variable {ra : Nat → Nat → Nat × Nat} {base : Nat}

theorem ta_takes {T : Tc} (h : Ways T) (hR : RowsOk T) {n m : Nat} (hn : 1 ≤ n) (hn4 : n ≤ 4) (hm : m ≤ 3) (hF : T.F.length = n + m) {O : AVal} (hO : okO O) (hq : ∀ q, O = .slice (.ro 4 0 0 0) q none → q ≤ T.o.length) :
    Takes Try.prog (tabF T) ra base 0 (codeOf 4 p9) (mkT 251 (lbZ n O (n + m))) (hp 0 [(newAl ⟨n, m, 0⟩).blk, rB T.F]) fun z => z = (.ret, mkT 251 [(6, .bool true)], []) := by
  have hE := tabF_plain T
  have hW := W_ok (E := tabF T) (ra := ra) (base := base) (S6_ok h) noL_ok
  have I := okInvB_of (T := T) (y := ⟨n, O, 0, newAl ⟨n, m, 0⟩, List.replicate (T.F.map List.length).length 0, T.F.map List.length, T.F.map fun _ => false, 0⟩) ⟨⟨0, inv_start hR hn hn4 hm hF hO⟩, hq⟩
  have hl : (T.F.map List.length).length = n + m := by rw [List.length_map, hF]
  have hsc : ∀ q : Nat, sameCap (some q) (some q) = true := fun q => by simp [sameCap]
  have e1 : lbZ n O (n + m) = [(0, .slice (.ro 0 0 0 0) n none), (2, O), (7, .ptr (.own 0 0 0 0)), (8, .slice (.own 1 0 0 1) (T.F.map List.length).length none)] := by rw [hl]; rfl
  have e2 : rB T.F = rK (T.F.map List.length).length (T.F.map List.length) (T.F.map fun _ => false) := by rw [rB, List.length_map]
  rw [e1, e2]
  rcases hO with rfl | ⟨q, rfl⟩
  · refine takes_of_treeQ hE hW (TMn_ok h) (f := 4) (.inr (by kernel_rfl)) (hp_below _) (ta_n T n (newAl ⟨n, m, 0⟩) (T.F.map List.length) (T.F.map fun _ => false)) ?_
    simp only [TreeQ.holds, decide_true, Bool.and_self, Bool.and_true, Bool.true_and, true_and, List.length_replicate, hsc, decide_eq_true_eq, Bool.and_eq_true, I, forall_const, implies_true, and_true, Int.le_refl]
    omega
  · refine takes_of_treeQ hE hW (TMn_ok h) (f := 4) (.inr (by kernel_rfl)) (hp_below _) (ta_s T n q (newAl ⟨n, m, 0⟩) (T.F.map List.length) (T.F.map fun _ => false)) ?_
    simp only [TreeQ.holds, decide_true, Bool.and_self, Bool.and_true, Bool.true_and, true_and, List.length_replicate, hsc, decide_eq_true_eq, Bool.and_eq_true, I, forall_const, implies_true, and_true, Int.le_refl]
    omega
end

end Go.Proofs.Ytbdjcekekhgnkaa
