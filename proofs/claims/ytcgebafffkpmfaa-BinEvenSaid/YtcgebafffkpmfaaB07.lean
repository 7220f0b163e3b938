/- bins: 64 keys one behind the other lie evenly: plain numbers, no program. -/
namespace Go.Proofs.Ytcgebafffkpmfaa

def pt (k : Nat) : Nat := k * 2654435761 % 4294967296
def pts : List Nat := (List.range 64).map pt
def inn (d p : Nat) : Bool := decide ((d + p) % 4294967296 < 536870912)
def cntL (d : Nat) : Nat := pts.countP (inn d)

/-- of all places from lo on, below hi: is it in, for sure; may it be in -/
def sureIn (lo hi p : Nat) : Bool := decide (hi + p ≤ 536870912) || (decide (4294967296 ≤ lo + p) && decide (hi + p ≤ 4831838208))
def mayIn (lo hi p : Nat) : Bool := !((decide (536870912 ≤ lo + p) && decide (hi + p ≤ 4294967296)) || (decide (4831838208 ≤ lo + p) && decide (hi + p ≤ 8589934592)))
def okI (lo hi : Nat) : Bool := decide (5 ≤ pts.countP (sureIn lo hi)) && decide (pts.countP (mayIn lo hi) ≤ 11)
def chk : Nat → List Nat → Bool
  | lo, [] => decide (4294967296 ≤ lo)
  | lo, h :: r => okI lo h && chk h r

theorem countP_le {α : Type} {f g : α → Bool} : ∀ l : List α, (∀ a ∈ l, f a = true → g a = true) → l.countP f ≤ l.countP g
  | l, h => List.countP_mono_left h

theorem okI_ok {lo hi : Nat} (h : okI lo hi = true) {d : Nat} (h1 : lo ≤ d) (h2 : d < hi) : 5 ≤ cntL d ∧ cntL d ≤ 11 := by
  rw [okI, Bool.and_eq_true] at h
  have a := of_decide_eq_true h.1
  have b := of_decide_eq_true h.2
  have c1 : pts.countP (sureIn lo hi) ≤ cntL d := countP_le pts fun p _ hp => by
    simp only [sureIn, inn, Bool.or_eq_true, Bool.and_eq_true, decide_eq_true_eq] at hp ⊢
    omega
  have c2 : cntL d ≤ pts.countP (mayIn lo hi) := countP_le pts fun p _ hp => by
    simp only [inn, decide_eq_true_eq] at hp
    cases hm : mayIn lo hi p with
    | true => rfl
    | false =>
      simp only [mayIn, Bool.not_eq_false', Bool.or_eq_true, Bool.and_eq_true, decide_eq_true_eq] at hm
      omega
  omega

theorem chk_ok : ∀ (l : List Nat) (lo : Nat), chk lo l = true → ∀ d, lo ≤ d → d < 4294967296 → 5 ≤ cntL d ∧ cntL d ≤ 11
  | [], lo, h, d, h1, h2 => by
    have := of_decide_eq_true h
    omega
  | hi :: r, lo, h, d, h1, h2 => by
    rw [chk, Bool.and_eq_true] at h
    by_cases k : d < hi
    · exact okI_ok h.1 h1 k
    · exact chk_ok r hi h.2 d (by omega) h2

def cuts : List Nat := [182847734, 330774259, 478700784, 626627309, 809475043, 1048825435, 1254922088, 1494272480, 1731955402, 1879881927, 2119232319, 2302080053, 2597933103, 2837283495, 3043380148, 3282730540, 3520413462, 3759763854, 3942611588, 4238464638, 4294967296]
theorem all_places (d : Nat) (h : d < 4294967296) : 5 ≤ cntL d ∧ cntL d ≤ 11 := chk_ok cuts 0 (by decide +kernel) d (Nat.zero_le _) h

/-- a key's bin -/
def binN (x : Nat) : Nat := x * 2654435761 % 4294967296 / 536870912
theorem place_num (u p b : Nat) (hu : u < 4294967296) (hp : p < 4294967296) (hb : b < 8) : (u + p) % 4294967296 / 536870912 = b ↔ ((u + 4294967296 - b * 536870912) % 4294967296 + p) % 4294967296 < 536870912 := by
  match b, hb with
  | 0, _ => omega
  | 1, _ => omega
  | 2, _ => omega
  | 3, _ => omega
  | 4, _ => omega
  | 5, _ => omega
  | 6, _ => omega
  | 7, _ => omega
theorem bin_place (x k b : Nat) (hb : b < 8) : (binN ((x + k) % 4294967296) = b) ↔ ((x * 2654435761 % 4294967296 + 4294967296 - b * 536870912) % 4294967296 + k * 2654435761 % 4294967296) % 4294967296 < 536870912 := by
  have e : (x + k) % 4294967296 * 2654435761 % 4294967296 = (x * 2654435761 % 4294967296 + k * 2654435761 % 4294967296) % 4294967296 := by
    rw [← Nat.add_mod, ← Nat.add_mul, Nat.mod_mul_mod]
  rw [binN, e]
  exact place_num _ _ b (Nat.mod_lt _ (Nat.succ_pos _)) (Nat.mod_lt _ (Nat.succ_pos _)) hb
theorem cntL_eq (d : Nat) : cntL d = (List.range 64).countP (fun k => inn d (pt k)) := by
  rw [cntL, pts, List.countP_map]; rfl
theorem place_lt (x b : Nat) : (x * 2654435761 % 4294967296 + 4294967296 - b * 536870912) % 4294967296 < 4294967296 := by
  generalize x * 2654435761 % 4294967296 + 4294967296 - b * 536870912 = y
  exact Nat.mod_lt y (Nat.succ_pos 4294967295)
theorem even (x : Nat) (b : Nat) (hb : b < 8) : 5 ≤ (List.range 64).countP (fun k => decide (binN ((x + k) % 4294967296) = b)) ∧ (List.range 64).countP (fun k => decide (binN ((x + k) % 4294967296) = b)) ≤ 11 := by
  have e : (List.range 64).countP (fun k => decide (binN ((x + k) % 4294967296) = b)) = cntL ((x * 2654435761 % 4294967296 + 4294967296 - b * 536870912) % 4294967296) := by
    rw [cntL_eq]
    refine List.countP_congr fun k _ => ?_
    rw [decide_eq_true_eq, inn, decide_eq_true_eq]
    exact bin_place x k b hb
  rw [e]
  exact all_places _ (place_lt x b)

end Go.Proofs.Ytcgebafffkpmfaa
