/- align: AlignCuts: the rows are all built, and frozen. -/
import Derived.Test.YtbdjcekekhgnkaaP24g
set_option linter.unusedSimpArgs false
namespace Go.Proofs.Ytbdjcekekhgnkaa
open Ab

def Fa (T : Tc) (i : Nat) : List (List Int) := (List.range i).map fun j => rowL (inX T j)
def Fb (T : Tc) (n i : Nat) : List (List Int) := Fa T n ++ (List.range i).map fun j => rowL (byX T j)

theorem Fa_len (T : Tc) (i : Nat) : (Fa T i).length = i := by simp [Fa]
theorem Fb_len (T : Tc) (n i : Nat) : (Fb T n i).length = n + i := by simp [Fb, Fa]
theorem Fa_succ (T : Tc) (i : Nat) : Fa T (i + 1) = Fa T i ++ [rowL (inX T i)] := by simp [Fa, List.range_succ]
theorem Fb_succ (T : Tc) (n i : Nat) : Fb T n (i + 1) = Fb T n i ++ [rowL (byX T i)] := by simp [Fb, List.range_succ]
theorem rowsB_snoc (x : Al) (F : List (List Int)) (r : List Int) : rowsB x (F ++ [r]) = [x.blk, rB (F ++ [r])] := by cases F <;> rfl

theorem Turns.same (E : Nat → Nat → Seg) (x : State) : Turns E x E x := ⟨rfl, fun ra base ι w nb a hf => ⟨ra, base, ι, hf, .refl _ _ _ _⟩⟩

theorem flat_B {p0 : Nat} {B : AVal} (h : okB B) : flat 2 5 p0 B = true := by
  rcases h with rfl | ⟨m, rfl⟩ <;> rfl
theorem flat_M {p0 m : Nat} {B : AVal} (h : okM B m) : flat 2 5 p0 B = true := by
  rcases h with ⟨rfl, _⟩ | rfl <;> rfl
theorem flat_O {p0 : Nat} {O : AVal} (h : okO O) : flat 2 5 p0 O = true := by
  rcases h with rfl | ⟨q, rfl⟩ <;> rfl

theorem laS_flat {n : Nat} {B O : AVal} (hB : okB B) (hO : okO O) (i p0 : Nat) : ∀ q ∈ laS n B O i, flat 2 5 p0 q.2 = true := by
  intro q hq
  simp only [laS, List.mem_cons, List.not_mem_nil, or_false] at hq
  rcases hq with rfl | rfl | rfl | rfl | rfl | rfl
  · rfl
  · exact flat_B hB
  · exact flat_O hO
  · rfl
  · cases i <;> rfl
  · rfl

theorem lbS_flat {n m : Nat} {B O : AVal} (hB : okM B m) (hO : okO O) (k i p0 : Nat) : ∀ q ∈ lbS n B O k i, flat 2 5 p0 q.2 = true := by
  intro q hq
  simp only [lbS, List.mem_cons, List.not_mem_nil, or_false] at hq
  rcases hq with rfl | rfl | rfl | rfl | rfl | rfl
  · rfl
  · exact flat_M hB
  · exact flat_O hO
  · rfl
  · rfl
  · rfl

theorem la_opens {T : Tc} (h : Ways T) (x : Al) {n : Nat} (hn : n ≤ T.ns.length) (hn4 : n ≤ 16) {B O : AVal} (hB : okB B) (hO : okO O) {c : Code} (hc : c = .loop (codeOf 4 (false :: pLa))) :
    Opens Try.prog (tabF (T.put [])) c (mkT 251 (laS n B O 0)) (hp 0 [x.blk]) fun E' z => E' = tabF (T.put (Fa T n)) ∧ z = (.exit 0, mkT 251 (laZ n B O n), hp 0 (rowsB x (Fa T n))) := by
  refine opens_loop hc (fun m E ts h' => ∃ i : Nat, i ≤ n ∧ m = n - i + 1 ∧ E = tabF (T.put (Fa T i)) ∧ ts = mkT 251 (laS n B O i) ∧ h' = hp 0 (rowsB x (Fa T i))) (fun E ts h' => by rintro ⟨i, _, h, _⟩; omega) (fun m E ts h' => ?_) (j := n + 1) ⟨0, by omega, by omega, rfl, rfl, rfl⟩
  rintro ⟨i, k1, k2, rfl, rfl, rfl⟩
  refine (opens_of_takes fun ra base => la_takes (ra := ra) (base := base) (h.put (Fa T i)) x hn hn4 hB hO k1 (Fa_len T i)).turns ?_
  rintro E z ⟨rfl, ⟨g1, B1, g2, rfl⟩ | ⟨g1, rfl⟩⟩
  · refine ⟨tabF (T.put (Fa T (i + 1))), (.normal, mkT 251 (laS n B O (i + 1)), hp 0 (rowsB x (Fa T (i + 1)))), ⟨fun _ => ⟨i + 1, by omega, by omega, rfl, rfl, rfl⟩, fun hh => absurd rfl hh⟩, ?_⟩
    rw [Fa_succ, rowsB_snoc]
    exact freeze_turn (T := T.put (Fa T i)) (laS_flat hB hO _ _) g2
  · subst g1
    exact ⟨_, _, ⟨fun hh => (by cases hh), fun _ => ⟨rfl, rfl⟩⟩, Turns.same _ _⟩

theorem lb_opens {T : Tc} (h : Ways T) (x : Al) {n m : Nat} (hn4 : n ≤ 16) (hm : m ≤ T.ms.length) (hm4 : m ≤ 16) {B O : AVal} (hB : okM B m) (hO : okO O) {c : Code} (hc : c = .loop (codeOf 4 (false :: pLb))) :
    Opens Try.prog (tabF (T.put (Fb T n 0))) c (mkT 251 (lbS n B O n 0)) (hp 0 [x.blk, rB (Fb T n 0)]) fun E' z => E' = tabF (T.put (Fb T n m)) ∧ z = (.exit 2, mkT 251 (lbZ n O (n + m)), hp 0 [x.blk, rB (Fb T n m)]) := by
  refine opens_loop hc (fun k E ts h' => ∃ i : Nat, i ≤ m ∧ k = m - i + 1 ∧ E = tabF (T.put (Fb T n i)) ∧ ts = mkT 251 (lbS n B O (n + i) i) ∧ h' = hp 0 [x.blk, rB (Fb T n i)]) (fun E ts h' => by rintro ⟨i, _, h, _⟩; omega) (fun k E ts h' => ?_) (j := m + 1) ⟨0, by omega, by omega, rfl, rfl, rfl⟩
  rintro ⟨i, k1, k2, rfl, rfl, rfl⟩
  have key : ∀ (ra : Nat → Nat → Nat × Nat) (base : Nat), Takes Try.prog (tabF (T.put (Fb T n i))) ra base 0 (codeOf 4 (false :: pLb)) (mkT 251 (lbS n B O (n + i) i)) (hp 0 [x.blk, rB (Fb T n i)]) fun z =>
      (i < m ∧ Built (T.put (Fb T n i)) x (rowL (byX T i)) (lbS n B O (n + i + 1) (i + 1)) z) ∨ (i = m ∧ z = (.exit 2, mkT 251 (lbZ n O (n + i)), hp 0 [x.blk, rB (Fb T n i)])) := by
    intro ra base
    have := lb_takes (ra := ra) (base := base) (h.put (Fb T n i)) x (n := n) hm hm4 hB hO k1 (by show (Fb T n i).length ≤ 100; rw [Fb_len]; omega)
    rw [show (T.put (Fb T n i)).F.length = n + i from Fb_len T n i] at this
    exact this
  refine (opens_of_takes key).turns ?_
  rintro E z ⟨rfl, ⟨g1, B1, g2, rfl⟩ | ⟨g1, rfl⟩⟩
  · refine ⟨tabF (T.put (Fb T n (i + 1))), (.normal, mkT 251 (lbS n B O (n + i + 1) (i + 1)), hp 0 [x.blk, rB (Fb T n (i + 1))]), ⟨fun _ => ⟨i + 1, by omega, by omega, rfl, rfl, rfl⟩, fun hh => absurd rfl hh⟩, ?_⟩
    rw [Fb_succ]
    exact freeze_turn (T := T.put (Fb T n i)) (lbS_flat hB hO _ _ _) g2
  · subst g1
    exact ⟨_, _, ⟨fun hh => (by cases hh), fun _ => ⟨rfl, rfl⟩⟩, Turns.same _ _⟩

end Go.Proofs.Ytbdjcekekhgnkaa
