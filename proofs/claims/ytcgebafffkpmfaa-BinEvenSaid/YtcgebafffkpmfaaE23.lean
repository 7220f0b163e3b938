/- Calls, and loops, told once: found at a small heap of their own, told at any heap that holds the like. -/
import Derived.Test.YtcgebafffkpmfaaE22
namespace Go.Proofs.Ytcgebafffkpmfaa.Ab

variable {P : Program} {E : Nat → Nat → Seg} {ra : Nat → Nat → Nat × Nat} {base : Nat} {S : Sums} {X : Exts} {L : Loops} {R : Walk}

/-- the small heap's state behind, in the great one's names -/
structure Tells (h hc h' d : Log) (k : Nat) (σ τ : Nat → Nat) (keep : Nat → Bool) : Prop where
  old : ∀ i, i < k → τ i = σ i ∧ keep i = true
  new : ∀ i, k ≤ i → keep i = true → τ i ∉ ids h ∧ (i ∈ ids h' → τ i ∈ ids d)
  inj : ∀ i j, k ≤ i → k ≤ j → keep i = true → keep j = true → τ i = τ j → i = j
  put : ∀ i, keep i = true → i ∈ ids h' → view (d ++ h) (τ i) = (view h' i).map (renB τ)
  only : ∀ j, j ∈ ids d → ∃ i, keep i = true ∧ i ∈ ids h' ∧ j = τ i
  uses : ∀ i B, keep i = true → view h' i = some B → usesB keep B = true

theorem view_none {h : Log} {i : Nat} (hi : i ∉ ids h) : view h i = none := by
  cases hv : view h i with
  | none => rfl
  | some B => exact absurd (view_mem hv) hi

/-- the old blocks laid once more -/
def again (h : Log) (σ : Nat → Nat) (k : Nat) : Log := (List.range k).map fun i => (σ i, view h (σ i))

theorem again_ids {h : Log} {σ : Nat → Nat} {k j : Nat} : j ∈ ids (again h σ k) ↔ ∃ i, i < k ∧ σ i = j := by
  simp [ids, again]

theorem again_view {h : Log} {σ : Nat → Nat} : ∀ {l : List Nat} {j : Nat}, j ∈ ids (l.map fun i => (σ i, view h (σ i))) → view (l.map fun i => (σ i, view h (σ i))) j = view h j
  | [], j, hj => by simp [ids] at hj
  | i :: l, j, hj => by
    simp only [List.map_cons, view]
    cases hb : Nat.beq (σ i) j with
    | true => have := Nat.eq_of_beq_eq_true hb; simp [this]
    | false =>
      simp only [List.map_cons, ids, List.mem_cons] at hj
      rcases hj with e | hj
      · subst e; simp at hb
      · exact again_view hj

theorem Tells.told {h hc h' d : Log} {k : Nat} {σ τ : Nat → Nat} {keep : Nat → Bool} (t : Tells h hc h' d k σ τ keep) (s : Small h hc k σ) (hk : ∀ i, i < k → i ∈ ids h') :
    Told h hc h' (d ++ again h σ k) k σ τ keep ∧ Eqv ((d ++ again h σ k) ++ h) (d ++ h) := by
  have hold : ∀ i, i < k → σ i ∈ ids h := fun i hi => let ⟨B, hB⟩ := s.all i hi; view_mem (s.view i B hB)
  have hv : ∀ j, view ((d ++ again h σ k) ++ h) j = view (d ++ h) j := by
    intro j
    rw [List.append_assoc, view_append d (again h σ k ++ h), view_append d h]
    by_cases hj : j ∈ ids d
    · rw [if_pos hj, if_pos hj]
    · rw [if_neg hj, if_neg hj, view_append]
      by_cases hj' : j ∈ ids (again h σ k)
      · rw [if_pos hj']; exact again_view hj'
      · rw [if_neg hj']
  have hi : ∀ j, j ∈ ids ((d ++ again h σ k) ++ h) ↔ j ∈ ids (d ++ h) := by
    intro j
    have e : ∀ a b : Log, ids (a ++ b) = ids a ++ ids b := fun a b => by simp [ids]
    rw [e, e, e]
    simp only [List.mem_append]
    constructor
    · rintro ((h1 | h1) | h1)
      · exact .inl h1
      · obtain ⟨i, h2, rfl⟩ := again_ids.1 h1; exact .inr (hold i h2)
      · exact .inr h1
    · rintro (h1 | h1)
      · exact .inl (.inl h1)
      · exact .inr h1
  have e2 : ∀ a b : Log, ids (a ++ b) = ids a ++ ids b := fun a b => by simp [ids]
  refine ⟨⟨t.old, fun i h1 h2 => (t.new i h1 h2).1, t.inj, fun i h1 h2 => ?_, fun j hj => ?_, fun i B h1 h2 => ?_⟩, ⟨fun i => (hv i).symm, fun i => (hi i).symm⟩⟩
  · have hm : τ i ∈ ids (d ++ again h σ k) := by
      rw [e2, List.mem_append]
      rcases Nat.lt_or_ge i k with h3 | h3
      · exact .inr (again_ids.2 ⟨i, h3, (t.old i h3).1.symm⟩)
      · exact .inl ((t.new i h3 h1).2 h2)
    refine ⟨hm, ?_⟩
    rw [← t.put i h1 h2, ← hv, view_append (d ++ again h σ k) h, if_pos hm]
  · rw [e2, List.mem_append] at hj
    rcases hj with hj | hj
    · exact t.only j hj
    · obtain ⟨i, h1, rfl⟩ := again_ids.1 hj
      exact ⟨i, (t.old i h1).2, hk i h1, (t.old i h1).1.symm⟩
  · rw [view_append] at h2
    by_cases hm : i ∈ ids h'
    · rw [if_pos hm] at h2; exact t.uses i B h1 h2
    · rw [if_neg hm] at h2; exact absurd (hk i ((s.ids i).1 (view_mem h2))) hm

/-- the small state's end, in the great world -/
theorem Tells.back {h hc h' d : Log} {k : Nat} {σ τ : Nat → Nat} {keep : Nat → Bool} (t : Tells h hc h' d k σ τ keep) (s : Small h hc k σ) (hE : Plain E) {ι ιc : Inj} {w w' : World} (H : WRel E ra base ι h w)
    (Hc : WRel E ra base ιc h' w') (Kc : KeepsK k (canI ι σ k) hc w ιc h' w') :
    ∃ ι', WRel E ra base ι' (d ++ h) w' ∧ Keeps ι h w ι' (d ++ h) w' ∧ ∀ v x, usesV keep v = true → Rel E ra ιc v x → Rel E ra ι' (renV τ v) x := by
  have H0 := s.fwd hE H
  have hk : ∀ i, i < k → i ∈ ids h' := by
    intro i hi
    obtain ⟨B, hB⟩ := s.all i hi
    obtain ⟨b, o, sz, h1, _, _⟩ := (H0.own i B hB).at
    exact Hc.dom i _ (Kc.ext i _ hi h1)
  have e : Eqv h' (h' ++ hc) := by
    refine ⟨fun i => ?_, fun i => ?_⟩
    · rw [view_append]
      by_cases hm : i ∈ ids h'
      · rw [if_pos hm]
      · rw [if_neg hm, view_none hm, view_none fun h2 => hm (hk i ((s.ids i).1 h2))]
    · simp only [ids, List.map_append, List.mem_append]
      exact ⟨fun h1 => h1.elim (fun x => x) fun h2 => hk i ((s.ids i).1 h2), .inl⟩
  obtain ⟨T, e'⟩ := t.told s hk
  obtain ⟨ι', h1, h2, h3⟩ := T.back s hE H (Hc.eqv e) (Keeps.eqv ⟨fun i x hx => Kc.ext i x (by
    simp only [canI] at hx
    split at hx
    · assumption
    · cases hx) hx, Kc.os, Kc.tape, Kc.output, Kc.size, Kc.block, Kc.live⟩ e)
  exact ⟨ι', h1.eqv e', h2.eqv e', h3⟩

/-! ### Loops -/

/-- each temporary is the other one's under its new name, or is forgotten -/
inductive Under (σ : Nat → Nat) (p : Nat → Bool) : Tmps → Tmps → Prop
  | nil : Under σ p [] []
  | skip {v : AVal} {ts tc : Tmps} (t : Under σ p ts tc) : Under σ p (v :: ts) (.undef :: tc)
  | cons {c : AVal} {ts tc : Tmps} (h : usesV p c = true) (t : Under σ p ts tc) : Under σ p (renV σ c :: ts) (c :: tc)

theorem Under.rel {ι : Inj} {σ : Nat → Nat} {k : Nat} {ts tc : Tmps} (u : Under σ (fun i => Nat.blt i k) ts tc) : ∀ {vs : List Value}, RelL E ra ι ts vs → RelL E ra (canI ι σ k) tc vs := by
  induction u with
  | nil => intro vs h; cases h; exact .nil
  | skip t ih => intro vs h; cases h with | cons h1 h2 => exact .cons (.undef _) (ih h2)
  | cons hc t ih => intro vs h; cases h with | cons h1 h2 => exact .cons (rel_fwd canI_eq _ hc h1) (ih h2)

/-- what is known behind -/
inductive Out (τ : Nat → Nat) (p : Nat → Bool) : Tmps → Tmps → Prop
  | nil : Out τ p [] []
  | skip {v : AVal} {ts tc : Tmps} (t : Out τ p ts tc) : Out τ p (v :: ts) (.undef :: tc)
  | cons {c : AVal} {ts tc : Tmps} (h : usesV p c = true) (t : Out τ p ts tc) : Out τ p (c :: ts) (renV τ c :: tc)

theorem Out.rel {ι ι' : Inj} {τ : Nat → Nat} {keep : Nat → Bool} (hv : ∀ v x, usesV keep v = true → Rel E ra ι v x → Rel E ra ι' (renV τ v) x) {ts tc : Tmps} (u : Out τ keep ts tc) : ∀ {vs : List Value}, RelL E ra ι ts vs → RelL E ra ι' tc vs := by
  induction u with
  | nil => intro vs h; cases h; exact .nil
  | skip t ih => intro vs h; cases h with | cons h1 h2 => exact .cons (.undef _) (ih h2)
  | cons hc t ih => intro vs h; cases h with | cons h1 h2 => exact .cons (hv _ _ hc h1) (ih h2)

theorem told_loop (hE : Plain E) {k : Nat} {c : Code} {ts tc : Tmps} {h hc : Log} {σ : Nat → Nat} (s : Small h hc k σ) (u : Under σ (fun i => Nat.blt i k) ts tc) {p : AExit × Tmps} {d : Log}
    (t : Takes P E ra base k c tc hc fun x => x.1 = p.1 ∧ ∃ τ keep, Tells h hc x.2.2 d k σ τ keep ∧ Out τ keep x.2.1 p.2) {ι : Inj} {w : World} {nb : Nat} {a : Act} (hf : Fit E ra base ι h w nb ts a) {Q : Exit → Act → World → Prop}
    (hQ : ∀ ι' a' w', Fit E ra base ι' (d ++ h) w' nb p.2 a' → Keeps ι h w ι' (d ++ h) w' → Q p.1.toExit a' w') : c.wpIn (FW none) 0 P Q a w := by
  have H0 := s.fwd hE hf.rel
  refine wpIn_mono (t (canI ι σ k) w nb a ⟨H0, u.rel hf.tmps, hf.defs.any H0, hf.size⟩) ?_
  rintro e a' w' ⟨x, ιc, rfl, ⟨h1, τ, keep, h2, h3⟩, h4, h5⟩
  obtain ⟨ι', g1, g2, g3⟩ := h2.back s hE hf.rel h4.rel h5
  rw [h1]
  exact hQ ι' a' w' ⟨g1, h3.rel g3 h4.tmps, h4.defs.any g1, h4.size⟩ g2

/-! ### Calls -/

def Gives (P : Program) (E : Nat → Nat → Seg) (ra : Nat → Nat → Nat × Nat) (base k : Nat) (f : FuncId) (as : List AVal) (h : Log) (Q : AVal → Log → Prop) : Prop :=
  ∀ (ι : Inj) (w : World) (as' : Array Value), WRel E ra base ι h w → RelL E ra ι as as'.toList →
    CallsIn (FW none) 0 P f as' w fun e w' => ∃ v v' h' ι', e = .returned v' ∧ Q v h' ∧ Rel E ra ι' v v' ∧ WRel E ra base ι' h' w' ∧ KeepsK k ι h w ι' h' w'

def leafV (v : AVal) (s : St) : Tree ((AExit × Tmps) × St) := .leaf ((.ret, [v]), s)

theorem gives_of_tree (hE : Plain E) (hR : ExecOK P E ra base R) (hS : SumsOK P E ra base S) {k : Nat} {f : FuncId} {as : List AVal} {h : Log} {nx : Nat} (hnx : Below h nx) {p : Pat} {T : Tree State} {Q : AVal → Log → Prop}
    (ht : ((callB P E S R f as).full ⟨h, nx, [], []⟩ leafV).take k p = T) (hT : T.holds fun x => ∃ v, x.2.1 = [v] ∧ Q v x.2.2) : HasBody P f ∧ Gives P E ra base k f as h Q := by
  rw [← ht] at hT
  have h1 := full_wp _ _ _ _ (take_holds _ _ hT)
  obtain ⟨q, s', d, r, h2, h3, _, _, _, h4⟩ := wp_runs _ _ _ hnx h1
  obtain ⟨hb, hc⟩ := callB_sound hR hS h2
  refine ⟨hb, fun ι w as' H ha => CallsIn.mono (hc ι w as' H ha) ?_⟩
  rintro e w' ⟨v', ι', rfl, g1, g2, g3⟩
  obtain ⟨l, mask, x, hx, v, hv, hQ⟩ := (h4 : Comes k _ ((.ret, [q]), s'))
  simp only at hx
  rw [h3] at hx
  obtain ⟨x1, x2, x3⟩ := x
  simp only at hv hQ
  subst hv
  have f' : Fit E ra base ι' (d ++ h) w' 0 [q] { tmps := #[v'], defers := [] } := ⟨g2, .cons g1 .nil, .nil _ _ _ _, Nat.zero_le _⟩
  obtain ⟨ι'', f'', k''⟩ := canon_fit hE hx f'
  refine ⟨v, v', x3, ι'', rfl, hQ, ?_, f''.rel, (g3.K k).trans k''⟩
  have := f''.tmps
  cases this with | cons h1 _ => exact h1

theorem Gives.mono {k : Nat} {f : FuncId} {as : List AVal} {h : Log} {Q Q' : AVal → Log → Prop} (hq : ∀ v h, Q v h → Q' v h) (g : Gives P E ra base k f as h Q) : Gives P E ra base k f as h Q' := by
  intro ι w as' H ha
  refine CallsIn.mono (g ι w as' H ha) ?_
  rintro e w' ⟨v, v', h', ι', h1, h2, h3⟩
  exact ⟨v, v', h', ι', h1, hq v h' h2, h3⟩

theorem told_call (hE : Plain E) {k : Nat} {f : FuncId} {ac as : List AVal} {h hc : Log} {σ : Nat → Nat} (s : Small h hc k σ) (ha : as = renL σ ac) (hu : usesL (fun i => Nat.blt i k) ac = true) {v : AVal} {d : Log}
    (g : Gives P E ra base k f ac hc fun vc h' => ∃ τ keep, Tells h hc h' d k σ τ keep ∧ v = renV τ vc ∧ usesV keep vc = true) : CallOK P E ra base f as h v d := by
  intro ι w as' H hr
  subst ha
  have H0 := s.fwd hE H
  refine CallsIn.mono (g (canI ι σ k) w as' H0 (relL_fwd canI_eq _ hu hr)) ?_
  rintro e w' ⟨vc, v', h', ιc, rfl, ⟨τ, keep, h2, rfl, h3⟩, h4, h5, h6⟩
  obtain ⟨ι', g1, g2, g3⟩ := h2.back s hE H h5 h6
  exact ⟨v', ι', rfl, g3 _ _ h3 h4, g1, g2⟩

/-- One function more that is told. -/
def sumF (f : FuncId) (m : List AVal → AM AVal) (S : Sums) : Sums := fun g => match Nat.beq g f with
  | true => some m
  | false => S g

theorem sumF_ok {f : FuncId} {m : List AVal → AM AVal} (hS : SumsOK P E ra base S) (hb : HasBody P f) (hm : ∀ as h v d r, (m as).Runs h v d r → CallOK P E ra base f as h v d) : SumsOK P E ra base (sumF f m S) := by
  intro g s hs
  unfold sumF at hs
  cases hg : Nat.beq g f with
  | true =>
    have := Nat.eq_of_beq_eq_true hg
    subst this
    simp only [hg, Option.some.injEq] at hs
    subst hs
    exact ⟨hb, hm⟩
  | false =>
    simp only [hg] at hs
    exact hS g s hs

/-- One loop more that is told. -/
def sumL (f : FuncId) (pl : List Bool) (m : Tmps → AM (AExit × Tmps)) (L : Loops) : Loops := fun g q => match Nat.beq g f with
  | true => match beqP q pl with
    | true => some m
    | false => L g q
  | false => L g q
where
  beqP : List Bool → List Bool → Bool
    | [], [] => true
    | true :: a, true :: b => beqP a b
    | false :: a, false :: b => beqP a b
    | _, _ => false

theorem beqP_eq : ∀ {a b : List Bool}, sumL.beqP a b = true → a = b
  | [], [], _ => rfl
  | true :: a, true :: b, h => by rw [beqP_eq (a := a) (b := b) h]
  | false :: a, false :: b, h => by rw [beqP_eq (a := a) (b := b) h]
  | [], true :: _, h | [], false :: _, h | true :: _, [], h | false :: _, [], h | true :: _, false :: _, h | false :: _, true :: _, h => by cases h

theorem sumL_ok {f : FuncId} {pl : List Bool} {m : Tmps → AM (AExit × Tmps)} (hL : LoopsOK P E ra base L) (hf : Nat.beq f noF = false)
    (hm : ∀ c, codeAt P f pl = some (.loop c) → ∀ (ts : Tmps) (ι : Inj) (h : Log) (w : World) (nb : Nat) (a : Act) (p : AExit × Tmps) (d : Log) (r : List Nat),
      Fit E ra base ι h w nb ts a → (m ts).Runs h p d r → ∀ Q : Exit → Act → World → Prop,
      (∀ ι' a' w', Fit E ra base ι' (d ++ h) w' nb p.2 a' → Keeps ι h w ι' (d ++ h) w' → Q p.1.toExit a' w') → (Code.loop c).wpIn (FW none) 0 P Q a w) : LoopsOK P E ra base (sumL f pl m L) := by
  intro g q s hs
  unfold sumL at hs
  cases hg : Nat.beq g f with
  | true =>
    have := Nat.eq_of_beq_eq_true hg
    subst this
    cases hp : sumL.beqP q pl with
    | true =>
      have := beqP_eq hp
      subst this
      simp only [hg, hp, Option.some.injEq] at hs
      subst hs
      exact ⟨fun e => by rw [e] at hf; simp at hf, hm⟩
    | false =>
      simp only [hg, hp] at hs
      exact hL g q s hs
  | false =>
    simp only [hg] at hs
    exact hL g q s hs

end Go.Proofs.Ytcgebafffkpmfaa.Ab
