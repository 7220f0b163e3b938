/- oper: OperParts, in plain lists. -/
import Derived.Test.YtbfebjmmpiffpaaP04o
import Derived.Test.YtbfebjmmpiffpaaD04p
set_option linter.unusedSimpArgs false
set_option linter.unusedVariables false
namespace Go.Proofs.Ytbfebjmmpiffpaa
open Ab

def fold (ops : List Op4) (l : List Rc) : List Rc := ops.foldl (fun l x => step x l) l
theorem oneF_step (x : Op4) (l : List Rc) : step x l = l.flatMap (oneF x) := by
  unfold step
  cases hd : doesB x with
  | true =>
    have : oneF x = makes x := by funext r; rw [oneF, if_pos hd]
    rw [this, if_pos rfl]
  | false =>
    have : oneF x = fun r => [r] := by funext r; rw [oneF, if_neg (by rw [hd]; decide)]
    rw [this, if_neg (by decide)]
    induction l with
    | nil => rfl
    | cons r l ih => rw [List.flatMap_cons, ← ih]; rfl
theorem fold_flat : ∀ (ops : List Op4) (l : List Rc), fold ops l = l.flatMap fun r => fold ops [r]
  | [], l => by
    show l = l.flatMap fun r => [r]
    induction l with
    | nil => rfl
    | cons r l ih => rw [List.flatMap_cons, ← ih]; rfl
  | x :: ops, l => by
    have e : ∀ l, fold (x :: ops) l = fold ops (l.flatMap (oneF x)) := fun l => by rw [← oneF_step]; rfl
    rw [e, fold_flat ops, List.flatMap_assoc]
    congr 1
    funext r
    rw [e, List.flatMap_cons, List.flatMap_nil, List.append_nil, ← fold_flat ops]
theorem appW_parts (a b : Os) (r : Rc) : appW a b r = partsL b (Rs.of (fold (toO a) [r])) := by
  rw [appW, List.foldl_append, partsL, toL_of]
  exact fold_flat (toO b) _

theorem like_self (r : Rc) : likeB r r = true := by simp [likeB]
theorem like_iff {r x : Rc} : likeB r x = true ↔ x.time = r.time ∧ x.side = r.side ∧ x.err = r.err ∧ x.late = r.late ∧ ((r.err || r.late) = true → x.key = r.key ∧ x.val = r.val) := by
  simp only [likeB, Bool.and_eq_true, decide_eq_true_eq, Bool.or_eq_true, Bool.not_eq_true']
  constructor
  · rintro ⟨h1, h2, h3, h4, h5⟩
    refine ⟨h1, h2, h3, h4, fun h => ?_⟩
    rcases h5 with h5 | h5
    · rcases h with h | h <;> rw [h] at h5 <;> simp at h5
    · exact h5
  · rintro ⟨h1, h2, h3, h4, h5⟩
    refine ⟨h1, h2, h3, h4, ?_⟩
    cases he : r.err <;> cases hl : r.late <;> rw [he, hl] at h5 <;> simp at h5 ⊢
    all_goals exact h5
theorem up_same (x : Op4) (r : Rc) : (up x r).time = r.time ∧ (up x r).side = r.side ∧ (up x r).err = r.err ∧ (up x r).late = r.late := ⟨rfl, rfl, rfl, rfl⟩
theorem like_copies (x : Op4) {r : Rc} (hn : (r.err || r.late) = false) : ∀ (m : Nat) (z : Rc), (z.time = r.time ∧ z.side = r.side ∧ z.err = r.err ∧ z.late = r.late) → ∀ y ∈ copies x m z, likeB r y = true
  | 0, _, _, y, hy => by cases hy
  | m + 1, z, h, y, hy => by
    rw [copies, List.mem_cons] at hy
    rcases hy with rfl | hy
    · exact like_iff.2 ⟨h.1, h.2.1, h.2.2.1, h.2.2.2, fun hh => by rw [hn] at hh; cases hh⟩
    · exact like_copies x hn m (up x z) h y hy
theorem like_one (x : Op4) {r z : Rc} (h : likeB r z = true) : ∀ y ∈ oneF x z, likeB r y = true := by
  intro y hy
  unfold oneF at hy
  split at hy
  · unfold makes at hy
    split at hy
    · rw [List.mem_singleton] at hy; subst hy; exact h
    · rename_i hne
      obtain ⟨h1, h2, h3, h4, h5⟩ := like_iff.1 h
      have hn : (r.err || r.late) = false := by
        rw [← h3, ← h4]
        cases he : z.err <;> cases hl : z.late <;> simp [he, hl] at hne ⊢
      have mk : ∀ k v, likeB r ⟨k, z.time, v, z.side, z.err, z.late⟩ = true := fun k v => like_iff.2 ⟨h1, h2, h3, h4, fun hh => by rw [hn] at hh; cases hh⟩
      split at hy
      · rw [List.mem_singleton] at hy; subst hy; exact mk _ _
      · split at hy
        · rw [List.mem_singleton] at hy; subst hy; exact mk _ _
        · split at hy
          · split at hy
            · rw [List.mem_singleton] at hy; subst hy; exact h
            · cases hy
          · exact like_copies x hn _ z ⟨h1, h2, h3, h4⟩ y hy
  · rw [List.mem_singleton] at hy; subst hy; exact h
theorem like_fold {r : Rc} : ∀ (ops : List Op4) {l : List Rc}, (∀ x ∈ l, likeB r x = true) → ∀ x ∈ fold ops l, likeB r x = true
  | [], _, h => h
  | x :: ops, l, h => by
    show ∀ y ∈ fold ops (step x l), _
    refine like_fold ops fun y hy => ?_
    rw [oneF_step] at hy
    obtain ⟨z, h1, h2⟩ := List.mem_flatMap.1 hy
    exact like_one x (h z h1) y h2

theorem fac_ge (x : Op4) : 1 ≤ facOf x ∧ facOf x ≤ 3 := by
  unfold facOf
  split
  · rename_i h
    obtain ⟨k, a, b, g⟩ := x
    obtain ⟨h1, h2⟩ := h
    simp only at h1
    subst h1
    have := may_iff3.1 h2
    simp only; omega
  · omega
theorem one_fac (x : Op4) (r : Rc) : ((oneF x r).length : Int) ≤ facOf x := by
  have hf := fac_ge x
  unfold oneF
  split
  · rename_i hd
    obtain ⟨hm, _⟩ := does_iff.1 hd
    obtain ⟨h1, _, _, h4⟩ := does_kind hd
    unfold makes
    split
    · simp only [List.length_cons, List.length_nil]; omega
    · split
      · simp only [List.length_cons, List.length_nil]; omega
      · split
        · simp only [List.length_cons, List.length_nil]; omega
        · split
          · split <;> simp only [List.length_cons, List.length_nil] <;> omega
          · have hk : x.k = 3 := by omega
            have := h4 hk
            rw [copies_len, facOf, if_pos ⟨hk, hm⟩]
            omega
  · simp only [List.length_cons, List.length_nil]; omega
theorem step_fac (x : Op4) : ∀ l : List Rc, ((step x l).length : Int) ≤ facOf x * l.length := by
  intro l
  rw [oneF_step]
  induction l with
  | nil => simp
  | cons r l ih =>
    have := one_fac x r
    rw [List.flatMap_cons, List.length_append, List.length_cons]
    have e : facOf x * ((l.length + 1 : Nat) : Int) = facOf x * (l.length : Int) + facOf x := by rw [Int.natCast_add, Int.mul_add]; simp
    rw [e]
    omega
theorem most_acc (ops : List Op4) : ∀ c : Int, ops.foldl (fun m x => m * facOf x) c = c * mostI ops := by
  induction ops with
  | nil => intro c; simp [mostI]
  | cons x ops ih =>
    intro c
    have e : mostI (x :: ops) = facOf x * mostI ops := by
      show (x :: ops).foldl (fun m x => m * facOf x) 1 = _
      rw [List.foldl_cons, ih, Int.one_mul]
    rw [List.foldl_cons, ih, e, Int.mul_assoc]
theorem most_cons (x : Op4) (ops : List Op4) : mostI (x :: ops) = facOf x * mostI ops := by
  show (x :: ops).foldl (fun m x => m * facOf x) 1 = _
  rw [List.foldl_cons, most_acc, Int.one_mul]
theorem most_pos : ∀ ops : List Op4, 1 ≤ mostI ops ∧ mostI ops ≤ 3 ^ ops.length
  | [] => by simp [mostI]
  | x :: ops => by
    have h1 := most_pos ops
    have h2 := fac_ge x
    rw [most_cons, List.length_cons, Int.pow_succ]
    constructor
    · have := Int.mul_le_mul h2.1 h1.1 (by decide) (by omega); omega
    · have := Int.mul_le_mul h2.2 h1.2 (by omega) (by decide)
      rw [Int.mul_comm ((3 : Int) ^ ops.length) 3]
      exact this
theorem fold_most : ∀ (ops : List Op4) (l : List Rc), ((fold ops l).length : Int) ≤ mostI ops * l.length
  | [], l => by
    show (l.length : Int) ≤ mostI [] * l.length
    simp [mostI]
  | x :: ops, l => by
    have h1 := fold_most ops (step x l)
    have h2 := step_fac x l
    have h3 := (most_pos ops).1
    show ((fold ops (step x l)).length : Int) ≤ _
    rw [most_cons, Int.mul_comm (facOf x), Int.mul_assoc]
    have h4 := Int.mul_le_mul_of_nonneg_left h2 (show 0 ≤ mostI ops by omega)
    omega
theorem fold_pass {r : Rc} (h : (r.err || r.late) = true) : ∀ ops : List Op4, fold ops [r] = [r]
  | [] => rfl
  | x :: ops => by
    have hs : step x [r] = [r] := by
      rw [oneF_step, List.flatMap_cons, List.flatMap_nil, List.append_nil, oneF]
      split
      · exact makes_pass (by simpa using h)
      · rfl
    show fold ops (step x [r]) = _
    rw [hs]; exact fold_pass h ops
end Go.Proofs.Ytbfebjmmpiffpaa
