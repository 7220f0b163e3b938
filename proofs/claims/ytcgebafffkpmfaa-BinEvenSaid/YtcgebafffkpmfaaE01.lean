/- The abstract machine: trees of reads, writes and new blocks over an abstract heap; how they run; what a run may be moved past. -/
import GoSem.Dispatch
namespace Go.Proofs.Ytcgebafffkpmfaa.Ab

inductive AAddr
  | own (id off i st : Nat)
  | ro (tid par i c : Nat)
  deriving Inhabited

inductive AVal
  | undef
  | bool (b : Bool)
  | int (k : IntKind) (n : Int)
  | str (s : ByteArray)
  | nilp
  | ptr (a : AAddr)
  | nils
  | slice (a : AAddr) (len : Nat) (cap : Option Nat)
  | nilf
  | fn (f : FuncId) (cap : List AVal)
  | yld (id : Nat)
  | nili
  | iface (t : TypeId) (v : AVal)
  | nilm
  | mapv (id : Nat)
  | agg (cs : List AVal)
  | tup (vs : List AVal)
  deriving Inhabited

inductive Col
  | int (k : IntKind) (xs : List Int)
  | bool (xs : List Bool)
  | str (xs : List ByteArray)
  | val (xs : List AVal)
  | subs (tid : Nat) (ns : List Nat) (bs : List Bool)
  deriving Inhabited

structure Seg where
  n : Nat
  st : Nat
  cols : List Col
  deriving Inhabited

inductive Blk
  | segs (l : List Seg)
  | map (es : List (AVal × AVal))
  | loop (ts : List AVal) (ps : List Nat) (assign body : Code) (state : LoopState) (pending : Option Code)

inductive AM : Type → Type 1
  | pure {α : Type} (a : α) : AM α
  | fail {α : Type} : AM α
  | br {α : Type} (b : Bool) (t e : AM α) : AM α
  | need {α : Type} (b : Bool) (k : AM α) : AM α
  | read {α : Type} (id : Nat) (k : Blk → AM α) : AM α
  | upd {α : Type} (id : Nat) (b : Option Blk) (k : AM α) : AM α
  | alloc {α : Type} (b : Blk) (k : Nat → AM α) : AM α
  | trace {α β : Type} (m : AM β) (k : β → List Nat → List Nat → AM α) : AM α

namespace AM
def bind {α β : Type} : AM α → (α → AM β) → AM β
  | .pure a, f => f a
  | .fail, _ => .fail
  | .br b t e, f => .br b (t.bind f) (e.bind f)
  | .need b k, f => .need b (k.bind f)
  | .read i k, f => .read i fun x => (k x).bind f
  | .upd i b k, f => .upd i b (k.bind f)
  | .alloc b k, f => .alloc b fun i => (k i).bind f
  | .trace m k, f => .trace m fun x r w => (k x r w).bind f
end AM

/-- the heap: newest first; 'none': given up -/
abbrev Log := List (Nat × Option Blk)

def view : Log → Nat → Option Blk
  | [], _ => none
  | (j, b) :: r, i => match Nat.beq j i with
    | true => b
    | false => view r i

def ids (h : Log) : List Nat := h.map (·.1)

structure St where
  h : Log
  nx : Nat
  rs : List Nat
  ws : List Nat

def AM.eval {α : Type} : AM α → St → Option (α × St)
  | .pure a, s => some (a, s)
  | .fail, _ => none
  | .br b t e, s => match b with
    | true => t.eval s
    | false => e.eval s
  | .need b k, s => match b with
    | true => k.eval s
    | false => none
  | .read i k, s => match view s.h i with
    | some b => (k b).eval { s with rs := i :: s.rs }
    | none => none
  | .upd i b k, s => match view s.h i with
    | some _ => k.eval { s with h := (i, b) :: s.h, rs := i :: s.rs, ws := i :: s.ws }
    | none => none
  | .alloc b k, s => (k s.nx).eval { s with h := (s.nx, some b) :: s.h, nx := s.nx + 1, ws := s.nx :: s.ws }
  | .trace m k, s => match m.eval { s with rs := [], ws := [] } with
    | some (x, s') => (k x s'.rs s'.ws).eval { s' with rs := s'.rs ++ s.rs, ws := s'.ws ++ s.ws }
    | none => none

def AM.wp {α : Type} : AM α → St → (α → St → Prop) → Prop
  | .pure a, s, Q => Q a s
  | .fail, _, _ => False
  | .br b t e, s, Q => (b = true → t.wp s Q) ∧ (b = false → e.wp s Q)
  | .need b k, s, Q => b = true ∧ k.wp s Q
  | .read i k, s, Q => match view s.h i with
    | some b => (k b).wp { s with rs := i :: s.rs } Q
    | none => False
  | .upd i b k, s, Q => match view s.h i with
    | some _ => k.wp { s with h := (i, b) :: s.h, rs := i :: s.rs, ws := i :: s.ws } Q
    | none => False
  | .alloc b k, s, Q => (k s.nx).wp { s with h := (s.nx, some b) :: s.h, nx := s.nx + 1, ws := s.nx :: s.ws } Q
  | .trace m k, s, Q => m.wp { s with rs := [], ws := [] } fun x s' => (k x s'.rs s'.ws).wp { s' with rs := s'.rs ++ s.rs, ws := s'.ws ++ s.ws } Q

/-- a run: what it gives, what it lays upon the heap, what it has read -/
def AM.Runs {α : Type} : AM α → Log → α → Log → List Nat → Prop
  | .pure a, _, a', d, r => a' = a ∧ d = [] ∧ r = []
  | .fail, _, _, _, _ => False
  | .br b t e, h, a, d, r => match b with
    | true => t.Runs h a d r
    | false => e.Runs h a d r
  | .need b k, h, a, d, r => b = true ∧ k.Runs h a d r
  | .read i k, h, a, d, r => ∃ b r', view h i = some b ∧ r = r' ++ [i] ∧ (k b).Runs h a d r'
  | .upd i b k, h, a, d, r => ∃ b' d' r', view h i = some b' ∧ d = d' ++ [(i, b)] ∧ r = r' ++ [i] ∧ k.Runs ((i, b) :: h) a d' r'
  | .alloc b k, h, a, d, r => ∃ i d', i ∉ ids h ∧ d = d' ++ [(i, some b)] ∧ (k i).Runs ((i, some b) :: h) a d' r
  | .trace m k, h, a, d, r => ∃ x d₁ r₁ d₂ r₂, m.Runs h x d₁ r₁ ∧ (k x r₁ (ids d₁)).Runs (d₁ ++ h) a d₂ r₂ ∧ d = d₂ ++ d₁ ∧ r = r₂ ++ r₁

theorem runs_bind {α β : Type} (m : AM α) (f : α → AM β) (h : Log) (b : β) (d : Log) (r : List Nat) :
    (m.bind f).Runs h b d r ↔ ∃ a d₁ r₁ d₂ r₂, m.Runs h a d₁ r₁ ∧ (f a).Runs (d₁ ++ h) b d₂ r₂ ∧ d = d₂ ++ d₁ ∧ r = r₂ ++ r₁ := by
  induction m generalizing h d r with
  | pure a =>
    simp only [AM.bind, AM.Runs]
    constructor
    · intro hh; exact ⟨a, [], [], d, r, ⟨rfl, rfl, rfl⟩, hh, by simp, by simp⟩
    · rintro ⟨a', d₁, r₁, d₂, r₂, ⟨rfl, rfl, rfl⟩, hh, rfl, rfl⟩; simpa using hh
  | fail => simp [AM.bind, AM.Runs]
  | br c t e iht ihe =>
    cases c
    · simp only [AM.bind, AM.Runs]; exact ihe f h d r
    · simp only [AM.bind, AM.Runs]; exact iht f h d r
  | need c k ih =>
    simp only [AM.bind, AM.Runs, ih]
    constructor
    · rintro ⟨hc, a, d₁, r₁, d₂, r₂, h1, h2, h3, h4⟩; exact ⟨a, d₁, r₁, d₂, r₂, ⟨hc, h1⟩, h2, h3, h4⟩
    · rintro ⟨a, d₁, r₁, d₂, r₂, ⟨hc, h1⟩, h2, h3, h4⟩; exact ⟨hc, a, d₁, r₁, d₂, r₂, h1, h2, h3, h4⟩
  | read i k ih =>
    simp only [AM.bind, AM.Runs, ih]
    constructor
    · rintro ⟨x, r', hv, rfl, a, d₁, r₁, d₂, r₂, h1, h2, rfl, rfl⟩
      exact ⟨a, d₁, r₁ ++ [i], d₂, r₂, ⟨x, r₁, hv, rfl, h1⟩, h2, rfl, by simp⟩
    · rintro ⟨a, d₁, r₁, d₂, r₂, ⟨x, r', hv, rfl, h1⟩, h2, rfl, rfl⟩
      exact ⟨x, r₂ ++ r', hv, by simp, a, d₁, r', d₂, r₂, h1, h2, rfl, rfl⟩
  | upd i c k ih =>
    simp only [AM.bind, AM.Runs, ih]
    constructor
    · rintro ⟨x, d', r', hv, rfl, rfl, a, d₁, r₁, d₂, r₂, h1, h2, rfl, rfl⟩
      exact ⟨a, d₁ ++ [(i, c)], r₁ ++ [i], d₂, r₂, ⟨x, d₁, r₁, hv, rfl, rfl, h1⟩, by simpa using h2, by simp, by simp⟩
    · rintro ⟨a, d₁, r₁, d₂, r₂, ⟨x, d', r', hv, rfl, rfl, h1⟩, h2, rfl, rfl⟩
      exact ⟨x, d₂ ++ d', r₂ ++ r', hv, by simp, by simp, a, d', r', d₂, r₂, h1, by simpa using h2, rfl, rfl⟩
  | alloc c k ih =>
    simp only [AM.bind, AM.Runs, ih]
    constructor
    · rintro ⟨i, d', hi, rfl, a, d₁, r₁, d₂, r₂, h1, h2, rfl, rfl⟩
      exact ⟨a, d₁ ++ [(i, some c)], r₁, d₂, r₂, ⟨i, d₁, hi, rfl, h1⟩, by simpa using h2, by simp, rfl⟩
    · rintro ⟨a, d₁, r₁, d₂, r₂, ⟨i, d', hi, rfl, h1⟩, h2, rfl, rfl⟩
      exact ⟨i, d₂ ++ d', hi, by simp, a, d', r₁, d₂, r₂, h1, by simpa using h2, rfl, rfl⟩
  | trace m k ihm ihk =>
    simp only [AM.bind, AM.Runs, ihk]
    constructor
    · rintro ⟨x, e₁, s₁, e₂, s₂, h0, ⟨a, d₁, r₁, d₂, r₂, h1, h2, rfl, rfl⟩, rfl, rfl⟩
      exact ⟨a, d₁ ++ e₁, r₁ ++ s₁, d₂, r₂, ⟨x, e₁, s₁, d₁, r₁, h0, h1, rfl, rfl⟩, by simpa using h2, by simp, by simp⟩
    · rintro ⟨a, d₁, r₁, d₂, r₂, ⟨x, e₁, s₁, e₂, s₂, h0, h1, rfl, rfl⟩, h2, rfl, rfl⟩
      exact ⟨x, e₁, s₁, d₂ ++ e₂, r₂ ++ s₂, h0, ⟨a, e₂, s₂, d₂, r₂, h1, by simpa using h2, rfl, rfl⟩, by simp, by simp⟩

instance : Monad AM where
  pure := AM.pure
  bind := AM.bind

theorem runs_bind' {α β : Type} (m : AM α) (f : α → AM β) (h : Log) (b : β) (d : Log) (r : List Nat) :
    (m >>= f).Runs h b d r ↔ ∃ a d₁ r₁ d₂ r₂, m.Runs h a d₁ r₁ ∧ (f a).Runs (d₁ ++ h) b d₂ r₂ ∧ d = d₂ ++ d₁ ∧ r = r₂ ++ r₁ := runs_bind m f h b d r

theorem runs_pure {α : Type} (a : α) (h : Log) (a' : α) (d : Log) (r : List Nat) : (AM.pure a).Runs h a' d r ↔ a' = a ∧ d = [] ∧ r = [] := Iff.rfl
theorem runs_pure' {α : Type} (a : α) (h : Log) (a' : α) (d : Log) (r : List Nat) : (Pure.pure a : AM α).Runs h a' d r ↔ a' = a ∧ d = [] ∧ r = [] := Iff.rfl

/-- all that is laid upon a heap is numbered from a number on -/
def Below (h : Log) (n : Nat) : Prop := ∀ i ∈ ids h, i < n

theorem eval_runs {α : Type} (m : AM α) : ∀ (s : St) (a : α) (s' : St), Below s.h s.nx → m.eval s = some (a, s') →
    ∃ d r, m.Runs s.h a d r ∧ s'.h = d ++ s.h ∧ s'.rs = r ++ s.rs ∧ s'.ws = ids d ++ s.ws ∧ Below s'.h s'.nx := by
  induction m with
  | pure a =>
    intro s a' s' hb h
    simp only [AM.eval, Option.some.injEq, Prod.mk.injEq] at h
    obtain ⟨rfl, rfl⟩ := h
    exact ⟨[], [], ⟨rfl, rfl, rfl⟩, rfl, rfl, rfl, hb⟩
  | fail => intro s a s' _ h; simp [AM.eval] at h
  | br b t e iht ihe =>
    intro s a s' hb h
    cases b
    · exact ihe s a s' hb h
    · exact iht s a s' hb h
  | need b k ih =>
    intro s a s' hb h
    cases b
    · simp [AM.eval] at h
    · obtain ⟨d, r, h1, h2⟩ := ih s a s' hb h
      exact ⟨d, r, ⟨rfl, h1⟩, h2⟩
  | read i k ih =>
    intro s a s' hb h
    simp only [AM.eval] at h
    cases hv : view s.h i with
    | none => simp [hv] at h
    | some b =>
      simp only [hv] at h
      obtain ⟨d, r, h1, h2, h3, h4, h5⟩ := ih b { s with rs := i :: s.rs } a s' hb h
      exact ⟨d, r ++ [i], ⟨b, r, hv, rfl, h1⟩, h2, by simp [h3], h4, h5⟩
  | upd i b k ih =>
    intro s a s' hb h
    simp only [AM.eval] at h
    cases hv : view s.h i with
    | none => simp [hv] at h
    | some b' =>
      simp only [hv] at h
      have hmem : ∀ (l : Log), view l i = some b' → i ∈ ids l := by
        intro l
        induction l with
        | nil => simp [view]
        | cons x l ih =>
          obtain ⟨j, c⟩ := x
          intro hh
          simp only [ids, List.map_cons, List.mem_cons]
          cases hj : Nat.beq j i with
          | true => exact .inl (Nat.eq_of_beq_eq_true hj).symm
          | false => simp only [view, hj] at hh; exact .inr (ih hh)
      obtain ⟨d, r, h1, h2, h3, h4, h5⟩ := ih { s with h := (i, b) :: s.h, rs := i :: s.rs, ws := i :: s.ws } a s' (by
        intro j hj
        simp only [ids, List.map_cons, List.mem_cons] at hj
        rcases hj with rfl | hj
        · exact hb _ (hmem _ hv)
        · exact hb _ hj) h
      exact ⟨d ++ [(i, b)], r ++ [i], ⟨b', d, r, hv, rfl, rfl, h1⟩, by simp [h2], by simp [h3], by simp [h4, ids], h5⟩
  | alloc b k ih =>
    intro s a s' hb h
    simp only [AM.eval] at h
    obtain ⟨d, r, h1, h2, h3, h4, h5⟩ := ih s.nx { s with h := (s.nx, some b) :: s.h, nx := s.nx + 1, ws := s.nx :: s.ws } a s' (by
      intro j hj
      simp only [ids, List.map_cons, List.mem_cons] at hj
      rcases hj with rfl | hj
      · exact Nat.lt_succ_self _
      · exact Nat.lt_succ_of_lt (hb _ hj)) h
    exact ⟨d ++ [(s.nx, some b)], r, ⟨s.nx, d, fun hm => Nat.lt_irrefl _ (hb _ hm), rfl, h1⟩, by simp [h2], h3, by simp [h4, ids], h5⟩
  | trace m k ihm ihk =>
    intro s a s' hb h
    simp only [AM.eval] at h
    cases hm : m.eval { s with rs := [], ws := [] } with
    | none => simp [hm] at h
    | some p =>
      obtain ⟨x, s₁⟩ := p
      simp only [hm] at h
      obtain ⟨d₁, r₁, g1, g2, g3, g4, g5⟩ := ihm { s with rs := [], ws := [] } x s₁ hb hm
      simp only [List.append_nil] at g3 g4
      obtain ⟨d₂, r₂, k1, k2, k3, k4, k5⟩ := ihk x s₁.rs s₁.ws { s₁ with rs := s₁.rs ++ s.rs, ws := s₁.ws ++ s.ws } a s' g5 h
      rw [g3, g4] at k1
      refine ⟨d₂ ++ d₁, r₂ ++ r₁, ⟨x, d₁, r₁, d₂, r₂, g1, by simpa [g2] using k1, rfl, rfl⟩, ?_, ?_, ?_, k5⟩
      · simp [k2, g2]
      · simp [k3, g3]
      · simp [k4, g4, ids]

theorem wp_runs {α : Type} (m : AM α) : ∀ (s : St) (Q : α → St → Prop), Below s.h s.nx → m.wp s Q →
    ∃ a s' d r, m.Runs s.h a d r ∧ s'.h = d ++ s.h ∧ s'.rs = r ++ s.rs ∧ s'.ws = ids d ++ s.ws ∧ Below s'.h s'.nx ∧ Q a s' := by
  induction m with
  | pure a => intro s Q hb h; exact ⟨a, s, [], [], ⟨rfl, rfl, rfl⟩, rfl, rfl, rfl, hb, h⟩
  | fail => intro s Q _ h; exact h.elim
  | br b t e iht ihe =>
    intro s Q hb h
    cases b
    · exact ihe s Q hb (h.2 rfl)
    · exact iht s Q hb (h.1 rfl)
  | need b k ih =>
    intro s Q hb h
    obtain ⟨hbt, h⟩ := h
    obtain ⟨a, s', d, r, h1, h2⟩ := ih s Q hb h
    exact ⟨a, s', d, r, ⟨hbt, h1⟩, h2⟩
  | read i k ih =>
    intro s Q hb h
    simp only [AM.wp] at h
    cases hv : view s.h i with
    | none => simp [hv] at h
    | some b =>
      simp only [hv] at h
      obtain ⟨a, s', d, r, h1, h2, h3, h4, h5⟩ := ih b { s with rs := i :: s.rs } Q hb h
      exact ⟨a, s', d, r ++ [i], ⟨b, r, hv, rfl, h1⟩, h2, by simp [h3], h4, h5⟩
  | upd i b k ih =>
    intro s Q hb h
    simp only [AM.wp] at h
    cases hv : view s.h i with
    | none => simp [hv] at h
    | some b' =>
      simp only [hv] at h
      have hmem : ∀ (l : Log), view l i = some b' → i ∈ ids l := by
        intro l
        induction l with
        | nil => simp [view]
        | cons x l ih =>
          obtain ⟨j, c⟩ := x
          intro hh
          simp only [ids, List.map_cons, List.mem_cons]
          cases hj : Nat.beq j i with
          | true => exact .inl (Nat.eq_of_beq_eq_true hj).symm
          | false => simp only [view, hj] at hh; exact .inr (ih hh)
      obtain ⟨a, s', d, r, h1, h2, h3, h4, h5⟩ := ih { s with h := (i, b) :: s.h, rs := i :: s.rs, ws := i :: s.ws } Q (by
        intro j hj
        simp only [ids, List.map_cons, List.mem_cons] at hj
        rcases hj with rfl | hj
        · exact hb _ (hmem _ hv)
        · exact hb _ hj) h
      exact ⟨a, s', d ++ [(i, b)], r ++ [i], ⟨b', d, r, hv, rfl, rfl, h1⟩, by simp [h2], by simp [h3], by simp [h4, ids], h5⟩
  | alloc b k ih =>
    intro s Q hb h
    simp only [AM.wp] at h
    obtain ⟨a, s', d, r, h1, h2, h3, h4, h5⟩ := ih s.nx { s with h := (s.nx, some b) :: s.h, nx := s.nx + 1, ws := s.nx :: s.ws } Q (by
      intro j hj
      simp only [ids, List.map_cons, List.mem_cons] at hj
      rcases hj with rfl | hj
      · exact Nat.lt_succ_self _
      · exact Nat.lt_succ_of_lt (hb _ hj)) h
    exact ⟨a, s', d ++ [(s.nx, some b)], r, ⟨s.nx, d, fun hm => Nat.lt_irrefl _ (hb _ hm), rfl, h1⟩, by simp [h2], h3, by simp [h4, ids], h5⟩
  | trace m k ihm ihk =>
    intro s Q hb h
    simp only [AM.wp] at h
    obtain ⟨x, s₁, d₁, r₁, g1, g2, g3, g4, g5, h⟩ := ihm { s with rs := [], ws := [] } _ hb h
    simp only [List.append_nil] at g3 g4
    obtain ⟨a, s', d₂, r₂, k1, k2, k3, k4, k5⟩ := ihk x s₁.rs s₁.ws { s₁ with rs := s₁.rs ++ s.rs, ws := s₁.ws ++ s.ws } Q g5 h
    rw [g3, g4] at k1
    refine ⟨a, s', d₂ ++ d₁, r₂ ++ r₁, ⟨x, d₁, r₁, d₂, r₂, g1, by simpa [g2] using k1, rfl, rfl⟩, ?_, ?_, ?_, k5⟩
    · simp [k2, g2]
    · simp [k3, g3]
    · simp [k4, g4, ids]

theorem view_append (d h : Log) (i : Nat) : view (d ++ h) i = if i ∈ ids d then view d i else view h i := by
  induction d with
  | nil => simp [ids]
  | cons x d ih =>
    obtain ⟨j, b⟩ := x
    simp only [List.cons_append, view, ids, List.map_cons, List.mem_cons]
    cases hj : Nat.beq j i with
    | true =>
      have := Nat.eq_of_beq_eq_true hj
      simp [this]
    | false =>
      have hne : i ≠ j := fun e => by subst e; simp at hj
      simp only [hne, false_or]
      exact ih

theorem view_mem {h : Log} {i : Nat} {b : Blk} (hv : view h i = some b) : i ∈ ids h := by
  induction h with
  | nil => simp [view] at hv
  | cons x h ih =>
    obtain ⟨j, c⟩ := x
    simp only [ids, List.map_cons, List.mem_cons]
    cases hj : Nat.beq j i with
    | true => exact .inl (Nat.eq_of_beq_eq_true hj).symm
    | false => simp only [view, hj] at hv; exact .inr (ih hv)

/-- A RUN HANGS ON WHAT IT READS ALONE. -/
theorem runs_local {α : Type} (m : AM α) : ∀ (h h' : Log) (a : α) (d : Log) (r : List Nat), m.Runs h a d r →
    (∀ i ∈ r, view h' i = view h i) → (∀ i ∈ ids d, i ∉ ids h → i ∉ ids h') → m.Runs h' a d r := by
  induction m with
  | pure a => intro h h' a' d r hr _ _; exact hr
  | fail => intro h h' a d r hr _ _; exact hr
  | br b t e iht ihe =>
    intro h h' a d r hr h1 h2
    cases b
    · exact ihe h h' a d r hr h1 h2
    · exact iht h h' a d r hr h1 h2
  | need b k ih => intro h h' a d r hr h1 h2; exact ⟨hr.1, ih h h' a d r hr.2 h1 h2⟩
  | read i k ih =>
    rintro h h' a d r ⟨b, r', hv, rfl, hk⟩ h1 h2
    exact ⟨b, r', by rw [h1 i (by simp)]; exact hv, rfl, ih b h h' a d r' hk (fun j hj => h1 j (by simp [hj])) h2⟩
  | upd i b k ih =>
    rintro h h' a d r ⟨b', d', r', hv, rfl, rfl, hk⟩ h1 h2
    refine ⟨b', d', r', by rw [h1 i (by simp)]; exact hv, rfl, rfl, ih _ _ a d' r' hk (fun j hj => ?_) (fun j hj hn => ?_)⟩
    · simp only [view]
      cases Nat.beq i j with
      | true => rfl
      | false => exact h1 j (by simp [hj])
    · simp only [ids, List.map_cons, List.mem_cons, not_or] at hn ⊢
      exact ⟨hn.1, h2 j (by simp only [ids, List.map_append, List.mem_append]; exact .inl hj) hn.2⟩
  | alloc b k ih =>
    rintro h h' a d r ⟨i, d', hi, rfl, hk⟩ h1 h2
    refine ⟨i, d', h2 i (by simp [ids]) hi, rfl, ih i _ _ a d' r hk (fun j hj => ?_) (fun j hj hn => ?_)⟩
    · simp only [view]
      cases Nat.beq i j with
      | true => rfl
      | false => exact h1 j hj
    · simp only [ids, List.map_cons, List.mem_cons, not_or] at hn ⊢
      exact ⟨hn.1, h2 j (by simp only [ids, List.map_append, List.mem_append]; exact .inl hj) hn.2⟩
  | trace m k ihm ihk =>
    rintro h h' a d r ⟨x, d₁, r₁, d₂, r₂, g1, g2, rfl, rfl⟩ h1 h2
    refine ⟨x, d₁, r₁, d₂, r₂, ihm h h' x d₁ r₁ g1 (fun j hj => h1 j (by simp [hj])) (fun j hj hn => h2 j (by simp only [ids, List.map_append, List.mem_append]; exact .inr hj) hn), ?_, rfl, rfl⟩
    refine ihk x r₁ (ids d₁) _ _ a d₂ r₂ g2 (fun j hj => ?_) (fun j hj hn => ?_)
    · rw [view_append, view_append, h1 j (by simp [hj])]
    · simp only [ids, List.map_append, List.mem_append, not_or] at hn ⊢
      exact ⟨hn.1, h2 j (by simp only [ids, List.map_append, List.mem_append]; exact .inl hj) hn.2⟩

end Go.Proofs.Ytcgebafffkpmfaa.Ab
