/- Runs over numbers that are not known: the tree of all ways, and a choice of those that may be gone. -/
import Derived.Test.YtcgebafffkpmfaaE20
namespace Go.Proofs.Ytcgebafffkpmfaa.Ab

inductive Tree (β : Type) : Type
  | leaf (b : β)
  | br (c : Bool) (t e : Tree β)
  | need (c : Bool) (t : Tree β)
  | but (c : Bool) (t : Tree β)
  | dead

/-- which ways are gone: computed (c), the one or the other alone (t, f), both (x), what is needed is told (n); at an end: the blocks that are kept, in their new order, and the temporaries -/
inductive Pat
  | leaf (l : List Nat) (mask : Nat)
  | leafN (l : List Nat) (mask : Nat)
  | c (p : Pat)
  | t (p : Pat)
  | f (p : Pat)
  | x (p q : Pat)
  | n (p : Pat)

/-- so many computed steps -/
def cs : Nat → Pat → Pat
  | 0, p => p
  | n + 1, p => .c (cs n p)

def Tree.holds {β : Type} : Tree β → (β → Prop) → Prop
  | .leaf b, Q => Q b
  | .br c t e, Q => (c = true → t.holds Q) ∧ (c = false → e.holds Q)
  | .need c t, Q => c = true ∧ t.holds Q
  | .but c t, Q => c = false ∧ t.holds Q
  | .dead, _ => False

theorem Tree.holds_mono {β : Type} {Q R : β → Prop} (h : ∀ b, Q b → R b) : ∀ {t : Tree β}, t.holds Q → t.holds R
  | .leaf _, k => h _ k
  | .br _ _ _, k => ⟨fun e => holds_mono h (k.1 e), fun e => holds_mono h (k.2 e)⟩
  | .need _ _, k => ⟨k.1, holds_mono h k.2⟩
  | .but _ _, k => ⟨k.1, holds_mono h k.2⟩
  | .dead, k => k

def AM.full {α β : Type} : AM α → St → (α → St → Tree β) → Tree β
  | .pure a, s, K => K a s
  | .fail, _, _ => .dead
  | .br b t e, s, K => .br b (t.full s K) (e.full s K)
  | .need b k, s, K => .need b (k.full s K)
  | .read i k, s, K => match view s.h i with
    | some b => (k b).full { s with rs := i :: s.rs } K
    | none => .dead
  | .upd i b k, s, K => match view s.h i with
    | some _ => k.full { s with h := (i, b) :: s.h, rs := i :: s.rs, ws := i :: s.ws } K
    | none => .dead
  | .alloc b k, s, K => (k s.nx).full { s with h := (s.nx, some b) :: s.h, nx := s.nx + 1, ws := s.nx :: s.ws } K
  | .trace m k, s, K => m.full { s with rs := [], ws := [] } fun x s' => (k x s'.rs s'.ws).full { s' with rs := s'.rs ++ s.rs, ws := s'.ws ++ s.ws } K

theorem wp_mono {α : Type} (m : AM α) : ∀ (s : St) (Q R : α → St → Prop), (∀ a s', Q a s' → R a s') → m.wp s Q → m.wp s R := by
  induction m with
  | pure a => intro s Q R h k; exact h _ _ k
  | fail => intro s Q R h k; exact k
  | br b t e iht ihe => intro s Q R h k; exact ⟨fun hb => iht s Q R h (k.1 hb), fun hb => ihe s Q R h (k.2 hb)⟩
  | need b k ih => intro s Q R h hk; exact ⟨hk.1, ih s Q R h hk.2⟩
  | read i k ih =>
    intro s Q R h hk
    simp only [AM.wp] at hk ⊢
    cases hv : view s.h i with
    | none => rw [hv] at hk; exact hk
    | some b => rw [hv] at hk; exact ih b _ Q R h hk
  | upd i b k ih =>
    intro s Q R h hk
    simp only [AM.wp] at hk ⊢
    cases hv : view s.h i with
    | none => rw [hv] at hk; exact hk
    | some _ => rw [hv] at hk; exact ih _ Q R h hk
  | alloc b k ih => intro s Q R h hk; exact ih _ _ Q R h hk
  | trace m k ihm ihk =>
    intro s Q R h hk
    simp only [AM.wp] at hk ⊢
    exact ihm _ _ _ (fun x s' hx => ihk x s'.rs s'.ws _ Q R h hx) hk

theorem full_wp {α β : Type} (m : AM α) : ∀ (s : St) (K : α → St → Tree β) (Q : β → Prop), (m.full s K).holds Q → m.wp s fun a s' => (K a s').holds Q := by
  induction m with
  | pure a => intro s K Q h; exact h
  | fail => intro s K Q h; exact h
  | br b t e iht ihe => intro s K Q h; exact ⟨fun hb => iht s K Q (h.1 hb), fun hb => ihe s K Q (h.2 hb)⟩
  | need b k ih => intro s K Q h; exact ⟨h.1, ih s K Q h.2⟩
  | read i k ih =>
    intro s K Q h
    simp only [AM.full] at h
    simp only [AM.wp]
    cases hv : view s.h i with
    | none => rw [hv] at h; exact h
    | some b => rw [hv] at h; exact ih b _ K Q h
  | upd i b k ih =>
    intro s K Q h
    simp only [AM.full] at h
    simp only [AM.wp]
    cases hv : view s.h i with
    | none => rw [hv] at h; exact h
    | some _ => rw [hv] at h; exact ih _ K Q h
  | alloc b k ih => intro s K Q h; exact ih _ _ K Q h
  | trace m k ihm ihk =>
    intro s K Q h
    simp only [AM.full] at h
    simp only [AM.wp]
    have := ihm _ _ Q h
    refine wp_mono m _ _ _ (fun x s' hx => ?_) this
    exact ihk x s'.rs s'.ws _ K Q hx

end Go.Proofs.Ytcgebafffkpmfaa.Ab
