/- The engine. -/
import Derived.Test.YtgkejpfahpbnkaaE05

namespace Go.Proofs.Ytgkejpfahpbnkaa.Ab
variable {P : Program} {E : Nat → Nat → Seg} {ra : Nat → Nat → Nat × Nat} {base : Nat} {R : Walk}
inductive TreeQ (α : Type) : Type 1
  | leaf (b : α)
  | br (c : Bool) (t e : TreeQ α)
  | need (c : Bool) (t : TreeQ α)
  | but (c : Bool) (t : TreeQ α)
  | both (t e : TreeQ α)
  | all (β : Type) (k : β → TreeQ α)
  | imp (p : Prop) (t : TreeQ α)
  | dead
inductive PatQ
  | leaf (l : List Nat) (mask : Nat)
  | leafN (l : List Nat) (mask : Nat)
  | c (p : PatQ)
  | t (p : PatQ)
  | f (p : PatQ)
  | x (p q : PatQ)
  | n (p : PatQ)
  | b (p q : PatQ)
  | a (p : PatQ)
  | i (p : PatQ)
def csQ : Nat → PatQ → PatQ
  | 0, p => p
  | n + 1, p => .c (csQ n p)
def TreeQ.holds {α : Type} : TreeQ α → (α → Prop) → Prop
  | .leaf b, Q => Q b
  | .br c t e, Q => (c = true → t.holds Q) ∧ (c = false → e.holds Q)
  | .need c t, Q => c = true ∧ t.holds Q
  | .but c t, Q => c = false ∧ t.holds Q
  | .both t e, Q => t.holds Q ∧ e.holds Q
  | .all _ k, Q => ∀ y, (k y).holds Q
  | .imp p t, Q => p → t.holds Q
  | .dead, _ => False
def AM.fullQ {α β : Type} : AM α → St → (α → St → TreeQ β) → TreeQ β
  | .pure a, s, K => K a s
  | .fail, _, _ => .dead
  | .br b t e, s, K => .br b (t.fullQ s K) (e.fullQ s K)
  | .need b k, s, K => .need b (k.fullQ s K)
  | .read i k, s, K => match view s.h i with
    | some b => (k b).fullQ { s with rs := i :: s.rs } K
    | none => .dead
  | .upd i b k, s, K => match view s.h i with
    | some _ => k.fullQ { s with h := (i, b) :: s.h, rs := i :: s.rs, ws := i :: s.ws } K
    | none => .dead
  | .alloc b k, s, K => (k s.nx).fullQ { s with h := (s.nx, some b) :: s.h, nx := s.nx + 1, ws := s.nx :: s.ws } K
  | .trace m k, s, K => m.fullQ { s with rs := [], ws := [] } fun x s' => (k x s'.rs s'.ws).fullQ { s' with rs := s'.rs ++ s.rs, ws := s'.ws ++ s.ws } K
theorem fullQ_wp {α β : Type} (m : AM α) : ∀ (s : St) (K : α → St → TreeQ β) (Q : β → Prop), (m.fullQ s K).holds Q → m.wp s fun a s' => (K a s').holds Q := by
  induction m with
  | pure a => intro s K Q h; exact h
  | fail => intro s K Q h; exact h
  | br b t e iht ihe => intro s K Q h; exact ⟨fun hb => iht s K Q (h.1 hb), fun hb => ihe s K Q (h.2 hb)⟩
  | need b k ih => intro s K Q h; exact ⟨h.1, ih s K Q h.2⟩
  | read i k ih =>
    intro s K Q h
    simp only [AM.fullQ] at h
    simp only [AM.wp]
    cases hv : view s.h i with
    | none => rw [hv] at h; exact h
    | some b => rw [hv] at h; exact ih b _ K Q h
  | upd i b k ih =>
    intro s K Q h
    simp only [AM.fullQ] at h
    simp only [AM.wp]
    cases hv : view s.h i with
    | none => rw [hv] at h; exact h
    | some _ => rw [hv] at h; exact ih _ K Q h
  | alloc b k ih => intro s K Q h; exact ih _ _ K Q h
  | trace m k ihm ihk =>
    intro s K Q h
    simp only [AM.fullQ] at h
    simp only [AM.wp]
    have := ihm _ _ Q h
    refine wp_mono m _ _ _ (fun x s' hx => ?_) this
    exact ihk x s'.rs s'.ws _ K Q hx
abbrev EndQ := (AExit × Tmps) × St
def TreeQ.take (k : Nat) : TreeQ EndQ → PatQ → TreeQ State
  | .leaf b, .leaf l mask => match canon k l mask b.1 b.2.h with
    | some (true, x) => .leaf x
    | _ => .dead
  | .leaf b, .leafN l mask => match canon k l mask b.1 b.2.h with
    | some (c, x) => .need c (.leaf x)
    | none => .dead
  | .br c t e, .c p => match c with
    | true => t.take k p
    | false => e.take k p
  | .br c t _, .t p => .need c (t.take k p)
  | .br c _ e, .f p => .but c (e.take k p)
  | .br c t e, .x p q => .br c (t.take k p) (e.take k q)
  | .need c t, .c p => match c with
    | true => t.take k p
    | false => .dead
  | .need c t, .n p => .need c (t.take k p)
  | .both t e, .b p q => .both (t.take k p) (e.take k q)
  | .all β g, .a p => .all β fun y => (g y).take k p
  | .imp c t, .i p => .imp c (t.take k p)
  | _, _ => .dead
theorem takeQ_holds {k : Nat} {Q : State → Prop} : ∀ (t : TreeQ EndQ) (p : PatQ), (t.take k p).holds Q → t.holds (Comes k Q)
  | .leaf b, .leaf l mask, h => by
    simp only [TreeQ.take] at h
    split at h
    · rename_i x hx; exact (⟨l, mask, x, hx, h⟩ : Comes k Q b)
    · exact h.elim
  | .leaf b, .leafN l mask, h => by
    simp only [TreeQ.take] at h
    split at h
    · rename_i c x hx
      obtain ⟨rfl, h⟩ := h
      exact (⟨l, mask, x, hx, h⟩ : Comes k Q b)
    · exact h.elim
  | .br c t e, .c p, h => by
    simp only [TreeQ.take] at h
    cases c
    · exact ⟨fun hf => (by cases hf), fun _ => takeQ_holds e p h⟩
    · exact ⟨fun _ => takeQ_holds t p h, fun hf => (by cases hf)⟩
  | .br c t e, .t p, h => ⟨fun _ => takeQ_holds t p h.2, fun hc => by rw [h.1] at hc; cases hc⟩
  | .br c t e, .f p, h => ⟨fun hc => (by rw [h.1] at hc; cases hc), fun _ => takeQ_holds e p h.2⟩
  | .br c t e, .x p q, h => ⟨fun hc => takeQ_holds t p (h.1 hc), fun hc => takeQ_holds e q (h.2 hc)⟩
  | .need c t, .c p, h => by
    simp only [TreeQ.take] at h
    cases c
    · exact h.elim
    · exact ⟨rfl, takeQ_holds t p h⟩
  | .need c t, .n p, h => ⟨h.1, takeQ_holds t p h.2⟩
  | .both t e, .b p q, h => ⟨takeQ_holds t p h.1, takeQ_holds e q h.2⟩
  | .all β g, .a p, h => fun y => takeQ_holds (g y) p (h y)
  | .imp c t, .i p, h => fun hc => takeQ_holds t p (h hc)
  | .leaf _, .c _, h | .leaf _, .t _, h | .leaf _, .f _, h | .leaf _, .x _ _, h | .leaf _, .n _, h | .leaf _, .b _ _, h | .leaf _, .a _, h | .leaf _, .i _, h => h.elim
  | .br _ _ _, .leaf _ _, h | .br _ _ _, .leafN _ _, h | .br _ _ _, .n _, h | .br _ _ _, .b _ _, h | .br _ _ _, .a _, h | .br _ _ _, .i _, h => h.elim
  | .need _ _, .leaf _ _, h | .need _ _, .leafN _ _, h | .need _ _, .t _, h | .need _ _, .f _, h | .need _ _, .x _ _, h | .need _ _, .b _ _, h | .need _ _, .a _, h | .need _ _, .i _, h => h.elim
  | .but _ _, p, h => by cases p <;> exact h.elim
  | .both _ _, .leaf _ _, h | .both _ _, .leafN _ _, h | .both _ _, .c _, h | .both _ _, .t _, h | .both _ _, .f _, h | .both _ _, .x _ _, h | .both _ _, .n _, h | .both _ _, .a _, h | .both _ _, .i _, h => h.elim
  | .all _ _, .leaf _ _, h | .all _ _, .leafN _ _, h | .all _ _, .c _, h | .all _ _, .t _, h | .all _ _, .f _, h | .all _ _, .x _ _, h | .all _ _, .n _, h | .all _ _, .b _ _, h | .all _ _, .i _, h => h.elim
  | .imp _ _, .leaf _ _, h | .imp _ _, .leafN _ _, h | .imp _ _, .c _, h | .imp _ _, .t _, h | .imp _ _, .f _, h | .imp _ _, .x _ _, h | .imp _ _, .n _, h | .imp _ _, .b _ _, h | .imp _ _, .a _, h => h.elim
  | .dead, p, h => by cases p <;> exact h.elim
abbrev ToldL := Tmps → Log → ((AExit × Tmps) → List Blk → TreeQ EndQ) → TreeQ EndQ
structure ToldAt : Type 1 where
  js : List Nat
  m : ToldL
abbrev Tolds := FuncId → List Bool → Option ToldAt
def bitsOf : List Nat → Nat
  | [] => 0
  | j :: l => 2 ^ j + bitsOf l
def reachL (h : Log) : Nat → Nat → List Nat → List Nat
  | 0, _, l => l
  | n + 1, p, l => match l[p]? with
    | none => l
    | some i => match view h i with
      | some B => reachL h n (p + 1) (addNew l (idsB B))
      | none => reachL h n (p + 1) l
def loopT (X : Tmps → St → ((AExit × Tmps) → St → TreeQ EndQ) → TreeQ EndQ) : Nat → Tmps → St → ((AExit × Tmps) → St → TreeQ EndQ) → TreeQ EndQ
  | 0, _, _, _ => .dead
  | j + 1, ts, s, K => X ts s fun x s' => match x.1 with
    | .normal => loopT X j x.2 s' K
    | .exit i => K (.exit i, x.2) s'
    | .ret => K (.ret, x.2) s'
section
variable (R : Walk) (T : Tolds) (k : Nat)
def execT : Nat → FuncId → List Bool → Code → Tmps → St → ((AExit × Tmps) → St → TreeQ EndQ) → TreeQ EndQ
  | 0, _, _, _, _, _, _ => .dead
  | n + 1, f, p, c, ts, s, K => match T f p with
    | some t => match canon k (reachL s.h 40 0 (addNew (List.range k) (idsL (pickT t.js ts)))) (bitsOf t.js) (.normal, ts) s.h with
      | some (b, x) => .need b (t.m x.2.1 x.2.2 fun p Bs => K p ⟨hp 0 Bs, Bs.length, [], []⟩)
      | none => .dead
    | none => match c with
      | .seq a b => execT n f (false :: p) a ts s fun x s' => match x.1 with
        | .normal => execT n f (true :: p) b x.2 s' K
        | .exit i => K (.exit i, x.2) s'
        | .ret => K (.ret, x.2) s'
      | .block id a => execT n f (false :: p) a ts s fun x s' => K (blockA id x) s'
      | .scope a => execT n f (false :: p) a ts s K
      | .cond c a b => match evalA ts c with
        | .bool t => .br t (execT n f (false :: p) a ts s K) (execT n f (true :: p) b ts s K)
        | _ => .dead
      | .loop a => loopT (execT n f (false :: p) a) n ts s K
      | c => (R f p false c ts).fullQ ⟨s.h, s.nx, [], []⟩ K
end
def ToldOK (P : Program) (E : Nat → Nat → Seg) (ra : Nat → Nat → Nat × Nat) (base k : Nat) (f : FuncId) (p : List Bool) (m : ToldL) : Prop :=
  ∀ c, codeAt P f p = some c → ∀ ts h K Q, (m ts h K).holds Q → Takes P E ra base k c ts h fun y => ∃ Bs, y.2.2 = hp 0 Bs ∧ (K (y.1, y.2.1) Bs).holds Q
def ToldsOK (P : Program) (E : Nat → Nat → Seg) (ra : Nat → Nat → Nat × Nat) (base k : Nat) (T : Tolds) : Prop :=
  ∀ f p t, T f p = some t → f ≠ noF ∧ ToldOK P E ra base k f p t.m
def Goes (E : Nat → Nat → Seg) (ra : Nat → Nat → Nat × Nat) (base k : Nat) (K : (AExit × Tmps) → St → TreeQ EndQ) (Q : EndQ → Prop) (ι : Inj) (h : Log) (w : World) (nb : Nat) (e : Exit) (a' : Act) (w' : World) : Prop :=
  ∃ x s' ι', e = AExit.toExit x.1 ∧ (K x s').holds Q ∧ Below s'.h s'.nx ∧ Fit E ra base ι' s'.h w' nb x.2 a' ∧ KeepsK k ι h w ι' s'.h w'
theorem runQ_sound (hR : ExecOK P E ra base R) {k : Nat} {f : FuncId} {p : List Bool} {c : Code} (hat : At P f p c) {ts : Tmps} {s : St} (hb : Below s.h s.nx) {K : (AExit × Tmps) → St → TreeQ EndQ} {Q : EndQ → Prop}
    (h : ((R f p false c ts).fullQ ⟨s.h, s.nx, [], []⟩ K).holds Q) (ι : Inj) (w : World) (nb : Nat) (a : Act) (hf : Fit E ra base ι s.h w nb ts a) : c.wpIn (FW none) 0 P (Goes E ra base k K Q ι s.h w nb) a w := by
  have h1 := fullQ_wp _ _ _ _ h
  obtain ⟨q, s', d, r, h2, h3, _, _, h5, h4⟩ := wp_runs _ ⟨s.h, s.nx, [], []⟩ _ hb h1
  refine hR f p none c ts ι s.h w nb a q d r hat hf h2 _ fun ι' a' w' f' k' => ?_
  simp only at h3
  exact ⟨q, s', ι', rfl, h4, h5, by rw [h3]; exact f', by rw [h3]; exact k'.K k⟩
theorem execT_sound (hE : Plain E) (hR : ExecOK P E ra base R) {k : Nat} {T : Tolds} (hT : ToldsOK P E ra base k T) : ∀ (n : Nat) (f : FuncId) (p : List Bool) (c : Code) (ts : Tmps) (s : St) (K : (AExit × Tmps) → St → TreeQ EndQ) (Q : EndQ → Prop),
    At P f p c → Below s.h s.nx → (execT R T k n f p c ts s K).holds Q → ∀ (ι : Inj) (w : World) (nb : Nat) (a : Act), Fit E ra base ι s.h w nb ts a → c.wpIn (FW none) 0 P (Goes E ra base k K Q ι s.h w nb) a w := by
  intro n
  induction n with
  | zero => intro f p c ts s K Q _ _ h; exact h.elim
  | succ n ih =>
    intro f p c ts s K Q hat hb h ι w nb ac hf
    unfold execT at h
    split at h
    · rename_i t ht
      split at h
      · rename_i b x hx
        obtain ⟨rfl, h⟩ := h
        obtain ⟨hn, hm⟩ := hT f p t ht
        obtain ⟨ι', f', k'⟩ := canon_fit hE hx hf
        have hc : codeAt P f p = some c := hat.resolve_left hn
        refine wpIn_mono (hm c hc x.2.1 x.2.2 _ Q h ι' w nb ac f') ?_
        rintro e a' w' ⟨y, ι'', rfl, ⟨Bs, q1, q2⟩, q3, q4⟩
        refine ⟨(y.1, y.2.1), ⟨hp 0 Bs, Bs.length, [], []⟩, ι'', rfl, q2, hp_below Bs, ?_, ?_⟩
        · rw [← q1]; exact q3
        · rw [← q1]; exact k'.trans q4
      · exact h.elim
    split at h
    · rename_i a b
      refine wpIn_seq (wpIn_mono (ih f (false :: p) a ts s _ Q (hat.kid rfl) hb h ι w nb ac hf) ?_)
      rintro e a' w' ⟨⟨xe, xt⟩, s', ι', rfl, g1, g2, g3, g4⟩
      cases xe with
      | normal =>
        refine wpIn_mono (ih f (true :: p) b xt s' K Q (hat.kid rfl) g2 g1 ι' w' nb a' g3) ?_
        rintro e a'' w'' ⟨y, s'', ι'', rfl, q1, q2, q3, q4⟩
        exact ⟨y, s'', ι'', rfl, q1, q2, q3, g4.trans q4⟩
      | exit i => exact ⟨_, s', ι', rfl, g1, g2, g3, g4⟩
      | ret => exact ⟨_, s', ι', rfl, g1, g2, g3, g4⟩
    · rename_i id a
      refine wpIn_block (wpIn_mono (ih f (false :: p) a ts s _ Q (hat.kid rfl) hb h ι w nb ac hf) ?_)
      rintro e a' w' ⟨⟨xe, xt⟩, s', ι', rfl, g1, g2, g3, g4⟩
      cases xe with
      | normal => exact ⟨_, s', ι', rfl, g1, g2, g3, g4⟩
      | exit i =>
        simp only [AExit.toExit, Exit.inBlock]
        simp only [blockA] at g1
        cases hi : Nat.beq i id with
        | true =>
          rw [hi] at g1
          have := Nat.eq_of_beq_eq_true hi
          subst this
          rw [if_pos rfl]
          exact ⟨_, s', ι', rfl, g1, g2, g3, g4⟩
        | false =>
          rw [hi] at g1
          have : i ≠ id := fun e => by subst e; simp at hi
          rw [if_neg this]
          exact ⟨_, s', ι', rfl, g1, g2, g3, g4⟩
      | ret => exact ⟨_, s', ι', rfl, g1, g2, g3, g4⟩
    · rename_i a
      refine wpIn_scope (wpIn_mono (ih f (false :: p) a ts s K Q (hat.kid rfl) hb h ι w nb ac hf) ?_)
      rintro e a' w' ⟨x, s', ι', rfl, hx⟩
      cases hx1 : x.1 <;> exact ⟨x, s', ι', by rw [hx1], hx⟩
    · rename_i c a b
      split at h
      · rename_i t ht
        have hr := evalA_sound hf.tmps c
        rw [ht] at hr
        cases hr' : ac.eval c <;> rw [hr'] at hr <;> cases hr
        cases t with
        | true => exact wpIn_cond_true hr' (ih f (false :: p) a ts s K Q (hat.kid rfl) hb (h.1 rfl) ι w nb ac hf)
        | false => exact wpIn_cond_false hr' (ih f (true :: p) b ts s K Q (hat.kid rfl) hb (h.2 rfl) ι w nb ac hf)
      · exact h.elim
    · rename_i a
      refine wpIn_loop_count (fun j a' w' => ∃ ts' s' ι', (loopT (execT R T k n f (false :: p) a) j ts' s' K).holds Q ∧ Below s'.h s'.nx ∧ Fit E ra base ι' s'.h w' nb ts' a' ∧ KeepsK k ι s.h w ι' s'.h w') ?_ ?_ (j := n) ⟨ts, s, ι, h, hb, hf, .refl _ _ _ _⟩
      · rintro a' w' ⟨ts', s', ι', h1, _⟩
        exact h1
      · rintro j a₁ w₁ ⟨ts₁, s₁, ι₁, h1, h2, h3, h4⟩
        refine wpIn_mono (ih f (false :: p) a ts₁ s₁ _ Q (hat.kid rfl) h2 h1 ι₁ w₁ nb a₁ h3) ?_
        rintro e a' w' ⟨⟨xe, xt⟩, s', ι', rfl, g1, g2, g3, g4⟩
        cases xe with
        | normal => exact ⟨xt, s', ι', g1, g2, g3, h4.trans g4⟩
        | exit i => exact ⟨_, s', ι', rfl, g1, g2, g3, h4.trans g4⟩
        | ret => exact ⟨_, s', ι', rfl, g1, g2, g3, h4.trans g4⟩
    · exact runQ_sound hR hat hb h ι w nb ac hf
def leafQ (p : AExit × Tmps) (s : St) : TreeQ EndQ := .leaf (p, s)
theorem takes_of_treeQ (hE : Plain E) (hR : ExecOK P E ra base R) {k : Nat} {T : Tolds} (hT : ToldsOK P E ra base k T) {n : Nat} {f : FuncId} {pl : List Bool} {c : Code} (hat : At P f pl c) {ts : Tmps} {h : Log} {nx : Nat} (hnx : Below h nx) {p : PatQ} {t : TreeQ State} {Q : State → Prop}
    (ht : (execT R T k n f pl c ts ⟨h, nx, [], []⟩ leafQ).take k p = t) (hQ : t.holds Q) : Takes P E ra base k c ts h Q := by
  intro ι w nb a hf
  rw [← ht] at hQ
  refine wpIn_mono (execT_sound hE hR hT n f pl c ts ⟨h, nx, [], []⟩ leafQ (Comes k Q) hat hnx (takeQ_holds _ _ hQ) ι w nb a hf) ?_
  rintro e a' w' ⟨q, s', ι', rfl, h4, _, f', k'⟩
  obtain ⟨l, mask, x, hx, hQ⟩ := (h4 : Comes k Q (q, s'))
  obtain ⟨ι'', f'', k''⟩ := canon_fit hE hx f'
  exact ⟨x, ι'', by rw [(canon_spec hx).1], hQ, f'', k'.trans k''⟩
def callT (P : Program) (E : Nat → Nat → Seg) (R : Walk) (T : Tolds) (k : Nat) (f : FuncId) (as : List AVal) (s : St) : TreeQ EndQ :=
  match P.funcs[f]? with
  | some fn => match fn.body with
    | some c => execT R T k 400 f [] c (as ++ List.replicate (fn.ntmps - as.length) .undef) s fun x s' => match x.1 with
      | .exit _ => .dead
      | _ => (resA P E fn x.2).fullQ ⟨s'.h, s'.nx, [], []⟩ fun v s'' => .leaf ((.ret, [v]), s'')
    | none => .dead
  | none => .dead
theorem gives_of_treeQ (hE : Plain E) (hR : ExecOK P E ra base R) {k : Nat} {T : Tolds} (hT : ToldsOK P E ra base k T) {f : FuncId} {as : List AVal} {h : Log} {nx : Nat} (hnx : Below h nx) {p : PatQ} {t : TreeQ State} {Q : AVal → Log → Prop}
    (ht : (callT P E R T k f as ⟨h, nx, [], []⟩).take k p = t) (hQ : t.holds fun x => ∃ v, x.2.1 = [v] ∧ Q v x.2.2) : Gives P E ra base k f as h Q := by
  rw [← ht] at hQ
  have hQ := takeQ_holds _ _ hQ
  unfold callT at hQ
  cases hf : P.funcs[f]? with
  | none => rw [hf] at hQ; exact hQ.elim
  | some fn =>
    rw [hf] at hQ
    simp only at hQ
    cases hc : fn.body with
    | none => rw [hc] at hQ; exact hQ.elim
    | some c =>
      rw [hc] at hQ
      simp only at hQ
      intro ι w as' H ha
      have hlen : as'.size = as.length := by rw [← Array.length_toList]; exact ha.length
      have hfit : Fit E ra base ι h w w.heap.size (as ++ List.replicate (fn.ntmps - as.length) .undef) { tmps := as' ++ Array.replicate (fn.ntmps - as'.size) undef, defers := [] } :=
        ⟨H, by simp only [Array.toList_append, Array.toList_replicate, hlen]; exact ha.append (.replicate (.undef _) _), .nil _ _ _ _, Nat.le_refl _⟩
      refine CallsIn.mono (R := fun e w' => ∃ v v' h' ι', e = .returned v' ∧ (∃ s' : St, s'.h = h' ∧ Comes k (fun x => ∃ v, x.2.1 = [v] ∧ Q v x.2.2) ((.ret, [v]), s')) ∧ Rel E ra ι' v v' ∧ WRel E ra base ι' h' w' ∧ KeepsK k ι h w ι' h' w') (callsIn_of_wp_marks hf hc trivial ?_) ?_
      · refine wpIn_mono (execT_sound hE hR hT 400 f [] c _ ⟨h, nx, [], []⟩ _ _ (.inr (by simp only [codeAt, hf, hc])) hnx hQ ι w w.heap.size _ hfit) ?_
        rintro e a' w' ⟨⟨xe, xt⟩, s', ι', rfl, g1, g2, f', kk⟩
        have fin : xe ≠ .normal ∧ xe ≠ .ret → False := by
          intro hne
          cases xe with
          | normal => exact hne.1 rfl
          | ret => exact hne.2 rfl
          | exit i => exact g1
        have fin2 : (((resA P E fn xt).fullQ ⟨s'.h, s'.nx, [], []⟩ fun v s'' => TreeQ.leaf ((AExit.ret, [v]), s'')).holds (Comes k fun x => ∃ v, x.2.1 = [v] ∧ Q v x.2.2)) := by
          cases xe with
          | normal => exact g1
          | ret => exact g1
          | exit i => exact (g1 : False).elim
        obtain ⟨v, s'', d, r, k1, k2, _, _, _, k3⟩ := wp_runs _ ⟨s'.h, s'.nx, [], []⟩ _ g2 (fullQ_wp _ _ _ _ fin2)
        obtain ⟨hd, _, _, _⟩ := resA_sound f'.rel f'.tmps k1
        subst hd
        have fin3 := leaves_marksK f'.tmps k1 (Q := fun v h' => ∃ s' : St, s'.h = h' ∧ Comes k (fun x => ∃ v, x.2.1 = [v] ∧ Q v x.2.2) ((.ret, [v]), s')) ⟨s'', k2, k3⟩ a'.defers w' f'.defs f'.rel kk H.le
        cases xe with
        | normal => exact fin3
        | ret => exact fin3
        | exit i => exact (g1 : False).elim
      · rintro e w' ⟨v, v', h', ι', rfl, ⟨s', rfl, l, mask, x, hx, u, hu, hq⟩, g1, g2, g3⟩
        obtain ⟨x1, x2, x3⟩ := x
        simp only at hu hq
        subst hu
        have f' : Fit E ra base ι' s'.h w' 0 [v] { tmps := #[v'], defers := [] } := ⟨g2, .cons g1 .nil, .nil _ _ _ _, Nat.zero_le _⟩
        obtain ⟨ι'', f'', k''⟩ := canon_fit hE hx f'
        refine ⟨u, v', x3, ι'', rfl, hq, ?_, f''.rel, g3.trans k''⟩
        have := f''.tmps
        cases this with | cons h1 _ => exact h1
structure RAlt (ξ : Type) : Type 1 where
  β : Type
  ex : AExit
  post : ξ → β → Prop
  outs : ξ → β → List (Nat × AVal)
  blks' : ξ → β → List Blk
structure RDeal (ξ : Type) : Type 1 where
  ins : ξ → List (Nat × AVal)
  blks : ξ → List Blk
  pre : ξ → Bool
  alts : List (RAlt ξ)
def PostL {ξ : Type} (n : Nat) (x : ξ) (y : State) : List (RAlt ξ) → Prop
  | [] => False
  | [A] => ∃ b, A.post x b ∧ y = (A.ex, mkT n (A.outs x b), hp 0 (A.blks' x b))
  | A :: l => (∃ b, A.post x b ∧ y = (A.ex, mkT n (A.outs x b), hp 0 (A.blks' x b))) ∨ PostL n x y l
def altsQ {ξ : Type} (n : Nat) (x : ξ) (K : (AExit × Tmps) → List Blk → TreeQ EndQ) : List (RAlt ξ) → TreeQ EndQ
  | [] => .imp False .dead
  | [A] => .all A.β fun b => .imp (A.post x b) (K (A.ex, mkT n (A.outs x b)) (A.blks' x b))
  | A :: l => .both (.all A.β fun b => .imp (A.post x b) (K (A.ex, mkT n (A.outs x b)) (A.blks' x b))) (altsQ n x K l)
theorem altsQ_holds {ξ : Type} {n : Nat} {x : ξ} {K : (AExit × Tmps) → List Blk → TreeQ EndQ} {Q : EndQ → Prop} : ∀ {l : List (RAlt ξ)} {y : State}, (altsQ n x K l).holds Q → PostL n x y l → ∃ Bs, y.2.2 = hp 0 Bs ∧ (K (y.1, y.2.1) Bs).holds Q
  | [], _, _, h => h.elim
  | [A], y, g, ⟨b, h1, h2⟩ => ⟨A.blks' x b, by rw [h2], by rw [h2]; exact g b h1⟩
  | A :: B :: l, y, g, .inl ⟨b, h1, h2⟩ => ⟨A.blks' x b, by rw [h2], by rw [h2]; exact g.1 b h1⟩
  | A :: B :: l, y, g, .inr h => altsQ_holds g.2 h
def blksOf : Nat → Log → Option (List Blk)
  | _, [] => some []
  | i, (j, some B) :: r => match Nat.beq j i, blksOf (i + 1) r with
    | true, some l => some (B :: l)
    | _, _ => none
  | _, _ => none
theorem blksOf_eq : ∀ {h : Log} {i : Nat} {Bs : List Blk}, blksOf i h = some Bs → h = hp i Bs
  | [], i, Bs, e => by simp only [blksOf, Option.some.injEq] at e; subst e; rfl
  | (j, some B) :: r, i, Bs, e => by
    simp only [blksOf] at e
    split at e
    · rename_i l hj hl
      simp only [Option.some.injEq] at e
      subst e
      rw [beq_of hj, blksOf_eq hl]; rfl
    · cases e
  | (j, none) :: r, i, Bs, e => by simp [blksOf] at e
def sameBl : List Blk → List Blk → Bool
  | [], [] => true
  | A :: l, B :: m => sameB A B && sameBl l m
  | _, _ => false
theorem sameBl_eq : ∀ {l m : List Blk}, sameBl l m = true → l = m
  | [], [], _ => rfl
  | A :: l, B :: m, h => by simp only [sameBl, Bool.and_eq_true] at h; rw [sameB_eq h.1, sameBl_eq h.2]
  | [], _ :: _, h => by cases h
  | _ :: _, [], h => by cases h
def toldR {ξ : Type} (n : Nat) (D : RDeal ξ) (js : List Nat) (dec : List AVal → List Blk → Option ξ) : ToldAt := ⟨js, fun ts h K =>
  match blksOf 0 h with
  | some Bs => match dec (pickT js ts) Bs with
    | some x => .need (sameL ts (mkT n (D.ins x)) && sameBl Bs (D.blks x)) (.need (D.pre x) (altsQ n x K D.alts))
    | none => .dead
  | none => .dead⟩
theorem toldR_ok {k : Nat} {f : FuncId} {pl : List Bool} {c : Code} (hc : codeAt P f pl = some c) {ξ : Type} {n : Nat} {D : RDeal ξ} {js : List Nat} {dec : List AVal → List Blk → Option ξ}
    (ht : ∀ x, D.pre x = true → Takes P E ra base k c (mkT n (D.ins x)) (hp 0 (D.blks x)) fun y => PostL n x y D.alts) : ToldOK P E ra base k f pl (toldR n D js dec).m := by
  intro c' hc' ts h K Q hh
  have : c' = c := by
    rw [hc'] at hc
    simpa using hc
  subst this
  simp only [toldR] at hh
  split at hh
  · rename_i Bs hB
    split at hh
    · rename_i x hx
      obtain ⟨h1, h2, h3⟩ := hh
      simp only [Bool.and_eq_true] at h1
      have e1 := sameL_eq h1.1
      have e2 := sameBl_eq h1.2
      subst e1; subst e2
      rw [blksOf_eq hB]
      exact (ht x h2).mono fun y hy => altsQ_holds h3 hy
    · exact hh.elim
  · exact hh.elim
def sumT (f : FuncId) (pl : List Bool) (t : ToldAt) (T : Tolds) : Tolds := fun g q => match Nat.beq g f with
  | true => match sumL.beqP q pl with
    | true => some t
    | false => T g q
  | false => T g q
def noT : Tolds := fun _ _ => none
theorem noT_ok {k : Nat} : ToldsOK P E ra base k noT := fun _ _ _ h => by cases h
theorem sumT_ok {k : Nat} {T : Tolds} (hT : ToldsOK P E ra base k T) {f : FuncId} (hf : Nat.beq f noF = false) {pl : List Bool} {t : ToldAt} (ht : ToldOK P E ra base k f pl t.m) : ToldsOK P E ra base k (sumT f pl t T) := by
  intro g q s hs
  unfold sumT at hs
  cases hg : Nat.beq g f with
  | true =>
    have := Nat.eq_of_beq_eq_true hg
    subst this
    cases hp : sumL.beqP q pl with
    | true =>
      have := beqP_eq hp
      subst this
      simp only [hg, hp, Option.some.injEq] at hs
      subst hs
      exact ⟨fun e => by rw [e] at hf; simp at hf, ht⟩
    | false =>
      simp only [hg, hp] at hs
      exact hT g q s hs
  | false =>
    simp only [hg] at hs
    exact hT g q s hs
end Go.Proofs.Ytgkejpfahpbnkaa.Ab

namespace Go.Proofs.Ytgkejpfahpbnkaa.Ab
open Go.ChangeShapes Go.WideShapes
variable {P : Program} {H : Type} {enc : TypeId × Value → H} {w : World}
def two {α : Type} (a b : α) (t : Nat) : α := match t with
  | 0 => a
  | _ => b
end Go.Proofs.Ytgkejpfahpbnkaa.Ab

namespace Go.Proofs.Ytgkejpfahpbnkaa.Ab
variable {P : Program} {E : Nat → Nat → Seg} {ra : Nat → Nat → Nat × Nat} {base : Nat} {R : Walk}
end Go.Proofs.Ytgkejpfahpbnkaa.Ab

namespace Go.Proofs.Ytgkejpfahpbnkaa.Ab
variable {P : Program} {E : Nat → Nat → Seg} {ra : Nat → Nat → Nat × Nat} {base : Nat} {S : Sums} {L : Loops}
def pickD {ξ : Type} (as : List AVal) (l : List Nat) (dec : List AVal → List Blk → Option ξ) (x : ξ) : List ((ξ → Bool) × CDeal ξ) → CDeal ξ → AM AVal
  | [], D => callD D (fun _ => some l) dec as
  | (c, D) :: r, D' => .br (c x) (callD D (fun _ => some l) dec as) (pickD as l dec x r D')
def callNG {ξ : Type} (Ds : List ((ξ → Bool) × CDeal ξ)) (D : CDeal ξ) (dec : List AVal → List Blk → Option ξ) (as : List AVal) : AM AVal :=
  (reachA 40 0 (addNew [] (idsL as))).bind fun l => readsA l fun Bs => match dec as Bs with
    | some x => pickD as l dec x Ds D
    | none => .fail
def GivesD (P : Program) (E : Nat → Nat → Seg) (ra : Nat → Nat → Nat × Nat) (base : Nat) (f : FuncId) {ξ : Type} (D : CDeal ξ) : Prop :=
  ∀ x, D.pre x = true → Gives P E ra base (D.blks x).length f (D.args x) (hp 0 (D.blks x)) fun v h' => v = D.out x ∧ h' = hp 0 (D.blks' x)
theorem pickD_ok (hE : Plain E) (hS : SumsOK P E ra base S) {f : FuncId} (hb : HasBody P f) {ξ : Type} {dec : List AVal → List Blk → Option ξ} {as : List AVal} {l : List Nat} {x : ξ} {h : Log} {v : AVal} {d : Log} {r : List Nat} :
    ∀ (Ds : List ((ξ → Bool) × CDeal ξ)) (D : CDeal ξ), (∀ q ∈ Ds, GivesD P E ra base f q.2) → GivesD P E ra base f D → (pickD as l dec x Ds D).Runs h v d r → CallOK P E ra base f as h v d
  | [], D, _, hD, hr => by
    have key := sumF_deal hE hS hb (gets := fun _ => some l) (dec := dec) hD
    have := key f (callD D (fun _ => some l) dec) (by simp [sumF])
    exact this.2 as h v d r hr
  | (c, D) :: Ds, D', hDs, hD, hr => by
    simp only [pickD, AM.Runs] at hr
    cases hc : c x with
    | true =>
      rw [hc] at hr
      have key := sumF_deal hE hS hb (gets := fun _ => some l) (dec := dec) (hDs (c, D) (by simp))
      have := key f (callD D (fun _ => some l) dec) (by simp [sumF])
      exact this.2 as h v d r (by simpa using hr)
    | false =>
      rw [hc] at hr
      exact pickD_ok hE hS hb Ds D' (fun q hq => hDs q (by simp [hq])) hD (by simpa using hr)
theorem sumNG_deal (hE : Plain E) (hS : SumsOK P E ra base S) {f : FuncId} (hb : HasBody P f) {ξ : Type} {Ds : List ((ξ → Bool) × CDeal ξ)} {D : CDeal ξ} {dec : List AVal → List Blk → Option ξ}
    (h1 : ∀ q ∈ Ds, GivesD P E ra base f q.2) (h2 : GivesD P E ra base f D) : SumsOK P E ra base (sumF f (callNG Ds D dec) S) := by
  refine sumF_ok hS hb fun as h v d r hr => ?_
  simp only [callNG, runs_bind] at hr
  obtain ⟨l, d₁, r₁, d₂, r₂, g1, g2, rfl, rfl⟩ := hr
  have := reachA_runs _ _ _ g1
  subst this
  rw [List.append_nil]
  obtain ⟨Bs, r', _, _, g3⟩ := reads_runs g2
  split at g3
  · exact pickD_ok hE hS hb Ds D h1 h2 g3
  · exact g3.elim
def evalTrue (m : AM AVal) : Bool := match m.eval ⟨[], 0, [], []⟩ with
  | some (.bool b, _) => b
  | _ => false
theorem gives_of_eval (hE : Plain E) {R : Walk} (hR : ExecOK P E ra base R) (hS : SumsOK P E ra base S) {f : FuncId} {as : List AVal} (ht : evalTrue (callB P E S R f as) = true) :
    HasBody P f ∧ Gives P E ra base 0 f as (hp 0 []) fun v h' => v = .bool true ∧ h' = hp 0 [] := by
  unfold evalTrue at ht
  split at ht
  · rename_i b s' he
    subst ht
    obtain ⟨d, r, h2, h3, _, _, _⟩ := eval_runs _ _ _ _ (fun i hi => by cases hi) he
    obtain ⟨hb, hc⟩ := callB_sound hR hS h2
    refine ⟨hb, fun ι w as' H ha => CallsIn.mono (hc ι w as' H ha) ?_⟩
    rintro e w' ⟨v', ι', rfl, g1, g2, g3⟩
    have hx : canon 0 [] 1 ((.ret, [.bool true]) : AExit × Tmps) (d ++ []) = some (true, (.ret, [.bool true], [])) := rfl
    have f' : Fit E ra base ι' (d ++ []) w' 0 [.bool true] { tmps := #[v'], defers := [] } := ⟨g2, .cons g1 .nil, .nil _ _ _ _, Nat.zero_le _⟩
    obtain ⟨ι'', f'', k''⟩ := canon_fit hE hx f'
    refine ⟨.bool true, v', [], ι'', rfl, ⟨rfl, rfl⟩, ?_, f''.rel, (g3.K 0).trans k''⟩
    have := f''.tmps
    cases this with | cons h1 _ => exact h1
  · cases ht
end Go.Proofs.Ytgkejpfahpbnkaa.Ab

namespace Go.Proofs.Ytgkejpfahpbnkaa.Ab
variable {P : Program} {E : Nat → Nat → Seg} {ra : Nat → Nat → Nat × Nat} {base : Nat}
def flatA (n t0 p0 : Nat) : AAddr → Bool
  | .own i _ _ _ => Nat.blt i n
  | .ro t p _ _ => !(Nat.beq t t0 && Nat.ble p0 p)
def flat (n t0 p0 : Nat) : AVal → Bool
  | .undef => true
  | .bool _ => true
  | .int _ _ => true
  | .str _ => true
  | .nilp => true
  | .nils => true
  | .nilf => true
  | .ptr a => flatA n t0 p0 a
  | .slice a _ _ => flatA n t0 p0 a
  | _ => false
def Becomes (n t0 p0 : Nat) (v v' : AVal) : Prop :=
  (flat n t0 p0 v = true ∧ v' = v) ∨ ∃ (len : Nat) (cap : Option Nat), v = .slice (.own n 0 0 1) len cap ∧ v' = .slice (.ro t0 p0 0 0) len none
structure Froze (E E' : Nat → Nat → Seg) (ra ra' : Nat → Nat → Nat × Nat) (ι ι' : Inj) (n t0 p0 b o : Nat) : Prop where
  tab : ∀ t p, ¬ (t = t0 ∧ p0 ≤ p) → E' t p = E t p ∧ ra' t p = ra t p
  new : ra' t0 p0 = (b, o)
  own : ∀ i, i < n → ι' i = ι i
  at' : ∃ sz, ι n = some (b, o, sz)
theorem flatA_ro {n t0 p0 t p i c : Nat} (h : flatA n t0 p0 (.ro t p i c) = true) : ¬ (t = t0 ∧ p0 ≤ p) := by
  rintro ⟨rfl, h2⟩
  have h3 : Nat.ble p0 p = true := Nat.ble_eq_true_of_le h2
  simp [flatA, h3] at h
theorem flatA_own {n t0 p0 i j k l : Nat} (h : flatA n t0 p0 (.own i j k l) = true) : i < n := blt_iff.1 h
theorem Froze.relA {E' : Nat → Nat → Seg} {ra' : Nat → Nat → Nat × Nat} {ι ι' : Inj} {n t0 p0 b o : Nat} (F : Froze E E' ra ra' ι ι' n t0 p0 b o) {a : AAddr} {x : Addr} (hf : flatA n t0 p0 a = true) (h : RelA E ra ι a x) : RelA E' ra' ι' a x := by
  cases a with
  | own i j k l => obtain ⟨b', o', sz, h1, h2⟩ := h; exact ⟨b', o', sz, by rw [F.own _ (flatA_own hf)]; exact h1, h2⟩
  | ro t p i c =>
    obtain ⟨h1, h2⟩ := F.tab t p (flatA_ro hf)
    simp only [RelA] at h ⊢
    rw [h1, h2]; exact h
theorem Froze.rel {E' : Nat → Nat → Seg} {ra' : Nat → Nat → Nat × Nat} {ι ι' : Inj} {n t0 p0 b o : Nat} (F : Froze E E' ra ra' ι ι' n t0 p0 b o) {v v' : AVal} {x : Value} (hb : Becomes n t0 p0 v v') (h : Rel E ra ι v x) : Rel E' ra' ι' v' x := by
  rcases hb with ⟨hf, rfl⟩ | ⟨len, cap, rfl, rfl⟩
  · cases h with
    | undef => exact .undef _
    | bool => exact .bool _
    | int => exact .int _ _
    | str => exact .str _
    | nilp => exact .nilp
    | nils => exact .nils
    | nilf => exact .nilf
    | ptr h => exact .ptr (F.relA hf h)
    | slice h hn =>
      rename_i a len cap x cap'
      obtain ⟨h1, h2, h3⟩ := h
      have hf' : flatA n t0 p0 a = true := hf
      cases a with
      | own i j k l =>
        refine .slice ⟨h1, h2, h3.imp id ?_⟩ ?_
        · rintro ⟨b', o', sz, k1, k2⟩
          exact ⟨b', o', sz, by rw [F.own _ (flatA_own hf')]; exact k1, k2⟩
        · obtain ⟨y, hy⟩ := hn
          exact ⟨y, by rw [F.own _ (flatA_own hf')]; exact hy⟩
      | ro t p i c =>
        obtain ⟨k1, k2⟩ := F.tab t p (flatA_ro hf')
        refine .slice ⟨h1, h2, h3.imp id ?_⟩ trivial
        intro h
        simp only at h ⊢
        rw [k1, k2]; exact h
    | _ => simp [flat] at hf
  · cases h with
    | slice h hn =>
      obtain ⟨h1, h2, h3⟩ := h
      obtain ⟨sz, hi⟩ := F.at'
      refine .slice ⟨h1, fun c hc => (by cases hc), h3.imp id ?_⟩ trivial
      rintro ⟨b', o', sz', k1, k2, _⟩
      rw [hi] at k1
      simp only [Option.some.injEq, Prod.mk.injEq] at k1
      obtain ⟨rfl, rfl, rfl⟩ := k1
      simp only [F.new, k2, Nat.zero_mul, Nat.add_zero]
def Opens (P : Program) (E : Nat → Nat → Seg) (c : Code) (ts : Tmps) (h : Log) (Q : (Nat → Nat → Seg) → State → Prop) : Prop :=
  ∀ ra base ι w nb a, Fit E ra base ι h w nb ts a → c.wpIn (FW none) 0 P (fun e a' w' => ∃ x E' ra' base' ι', e = x.1.toExit ∧ Q E' x ∧ Fit E' ra' base' ι' x.2.2 w' nb x.2.1 a' ∧ KeepsK 0 ι h w ι' x.2.2 w') a w
theorem Opens.mono {c : Code} {ts : Tmps} {h : Log} {Q Q' : (Nat → Nat → Seg) → State → Prop} (t : Opens P E c ts h Q) (hq : ∀ E x, Q E x → Q' E x) : Opens P E c ts h Q' := by
  intro ra base ι w nb a hf
  refine wpIn_mono (t ra base ι w nb a hf) ?_
  rintro e a' w' ⟨x, E', ra', base', ι', h1, h2, h3, h4⟩
  exact ⟨x, E', ra', base', ι', h1, hq _ _ h2, h3, h4⟩
def bare : AVal → Bool
  | .undef => true
  | .bool _ => true
  | .int _ _ => true
  | _ => false
theorem relL_bare {E' : Nat → Nat → Seg} {ra' : Nat → Nat → Nat × Nat} {ι ι' : Inj} : ∀ {ts : List AVal} {xs : List Value}, (∀ v ∈ ts, bare v = true) → RelL E ra ι ts xs → RelL E' ra' ι' ts xs
  | [], _, _, h => by cases h; exact .nil
  | v :: ts, _, hb, h => by
    cases h with
    | cons h t =>
      refine .cons ?_ (relL_bare (fun u hu => hb u (by simp [hu])) t)
      have := hb v (by simp)
      cases h <;> first | (exfalso; revert this; simp [bare]; done) | exact .undef _ | exact .bool _ | exact .int _ _
end Go.Proofs.Ytgkejpfahpbnkaa.Ab

namespace Go.Proofs.Ytgkejpfahpbnkaa.Ab
variable {P : Program} {E : Nat → Nat → Seg} {ra : Nat → Nat → Nat × Nat} {base : Nat}
theorem Opens.shut (hE : Plain E) {c : Code} {ts : Tmps} {h : Log} {Q : State → Prop} (t : Opens P E c ts h fun _ x => x.2.2 = [] ∧ (∀ v ∈ x.2.1, bare v = true) ∧ Q x) : Takes P E ra base 0 c ts h Q := by
  intro ι w nb a hf
  refine wpIn_mono (t ra base ι w nb a hf) ?_
  rintro e a' w' ⟨⟨xe, xt, xh⟩, E', ra', base', ι', rfl, ⟨g1, g2, g3⟩, f, k⟩
  simp only at g1 g2
  subst g1
  have hk : ∀ b, Ro base b → w'.heap[b]? = w.heap[b]? := fun b hr => k.block b (hf.rel.le b hr) (fun hl => hl.ge hf.rel hr)
  have H : WRel E ra base (fun _ => none) [] w' := by
    refine ⟨fun _ _ h => (by cases h), fun _ _ h => (by cases h), fun _ _ _ _ _ _ h => (by cases h), fun b hb => Nat.lt_of_lt_of_le (hf.rel.le b hb) k.size, hf.rel.roLt, hf.rel.roWF, ?_⟩
    intro tid par j v hj
    obtain ⟨c, h1, h2⟩ := hf.rel.ro tid par j v hj
    have hn : 0 < (E tid par).n := by
      have := cellOf_lt hj
      simp only [total, Nat.add_zero] at this
      rcases Nat.eq_zero_or_pos (E tid par).n with h0 | h0
      · rw [h0] at this; simp at this
      · exact h0
    exact ⟨c, by rw [cell?_of_heap (w := w) (hk _ (hf.rel.roLt tid par hn))]; exact h1, rel_plain (hE tid par j v hj) h2⟩
  exact ⟨_, _, rfl, g3, ⟨H, relL_bare g2 f.tmps, f.defs.any H, f.size⟩, ⟨fun i x hh => absurd hh (Nat.not_lt_zero i), k.os, k.tape, k.output, k.size, k.block, fun b _ hl => by obtain ⟨id, B, o, sz, h1, _⟩ := hl; cases h1⟩⟩
end Go.Proofs.Ytgkejpfahpbnkaa.Ab

namespace Go.Proofs.Ytgkejpfahpbnkaa.Ab
variable {P : Program} {E : Nat → Nat → Seg} {ra : Nat → Nat → Nat × Nat} {base : Nat}
end Go.Proofs.Ytgkejpfahpbnkaa.Ab

namespace Go.Proofs.Ytgkejpfahpbnkaa.Ab
variable {P : Program} {E : Nat → Nat → Seg} {ra : Nat → Nat → Nat × Nat} {base : Nat}
def LikeV (pl : Nat → Nat → Option Nat) (E2 : Nat → Nat → Seg) (v v2 : AVal) : Prop :=
  (bare v = true ∧ v2 = v) ∨ (v = .nils ∧ v2 = .nils) ∨ ∃ id len cap t p, v = .slice (.own id 0 0 (E2 t p).st) len cap ∧ pl t p = some id ∧ v2 = .slice (.ro t p 0 0) len none
inductive LikeL (pl : Nat → Nat → Option Nat) (E2 : Nat → Nat → Seg) : List AVal → List AVal → Prop
  | nil : LikeL pl E2 [] []
  | cons {v v2 : AVal} {l l2 : List AVal} (h : LikeV pl E2 v v2) (t : LikeL pl E2 l l2) : LikeL pl E2 (v :: l) (v2 :: l2)
  | agg {us us2 : List AVal} {l l2 : List AVal} (h : LikeL pl E2 us us2) (t : LikeL pl E2 l l2) : LikeL pl E2 (.agg us :: l) (.agg us2 :: l2)
def seats (pl : Nat → Nat → Option Nat) (ι : Inj) (t p : Nat) : Nat × Nat := match pl t p with
  | some id => match ι id with
    | some (b, o, _) => (b, o)
    | none => (0, 0)
  | none => (0, 0)
theorem seats_eq {pl : Nat → Nat → Option Nat} {ι : Inj} {t p id b o sz : Nat} (h : pl t p = some id) (hi : ι id = some (b, o, sz)) : seats pl ι t p = (b, o) := by
  simp only [seats, h, hi]
theorem rel_bare {E' : Nat → Nat → Seg} {ra' : Nat → Nat → Nat × Nat} {ι ι' : Inj} {v : AVal} {x : Value} (hb : bare v = true) (h : Rel E ra ι v x) : Rel E' ra' ι' v x := by
  cases h <;> first | (exfalso; revert hb; simp [bare]; done) | exact .undef _ | exact .bool _ | exact .int _ _
theorem LikeV.rel {pl : Nat → Nat → Option Nat} {E2 : Nat → Nat → Seg} {ι ι0 : Inj} {v v2 : AVal} {x : Value} (hl : LikeV pl E2 v v2) (h : Rel E ra ι v x) : Rel E2 (seats pl ι) ι0 v2 x := by
  rcases hl with ⟨hb, rfl⟩ | ⟨rfl, rfl⟩ | ⟨id, len, cap, t, p, rfl, h1, rfl⟩
  · exact rel_bare hb h
  · cases h; exact .nils
  · cases h with
    | slice h hn =>
      obtain ⟨g1, g2, g3⟩ := h
      refine .slice ⟨g1, fun c hc => (by cases hc), g3.imp (fun e => e) ?_⟩ trivial
      rintro ⟨b, o, sz, k1, k2, _⟩
      simp only [seats_eq h1 k1, k2, Nat.zero_mul, Nat.add_zero]
theorem LikeL.rel {pl : Nat → Nat → Option Nat} {E2 : Nat → Nat → Seg} {ι ι0 : Inj} : ∀ {us us2 : List AVal} {xs : List Value}, LikeL pl E2 us us2 → RelL E ra ι us xs → RelL E2 (seats pl ι) ι0 us2 xs
  | _, _, _, .nil, h => by cases h; exact .nil
  | _, _, _, .cons h t, k => by
    cases k with
    | cons k1 k2 => exact .cons (h.rel k1) (t.rel k2)
  | _, _, _, .agg h t, k => by
    cases k with
    | cons k1 k2 =>
      cases k1 with
      | agg k3 => exact .cons (.agg (h.rel k3)) (t.rel k2)
end Go.Proofs.Ytgkejpfahpbnkaa.Ab

namespace Go.Proofs.Ytgkejpfahpbnkaa.Ab
variable {P : Program} {E : Nat → Nat → Seg} {ra : Nat → Nat → Nat × Nat} {base : Nat}
end Go.Proofs.Ytgkejpfahpbnkaa.Ab

namespace Go.Proofs.Ytgkejpfahpbnkaa.Ab
theorem sameA_self : ∀ a : AAddr, sameA a a = true
  | .own .. => by simp [sameA]
  | .ro .. => by simp [sameA]
theorem sameCap_self (c : Option Nat) : sameCap c c = true := by cases c <;> simp [sameCap]
mutual
theorem sameV_self : ∀ a : AVal, sameV a a = true
  | .undef | .nilp | .nils | .nilf | .nili | .nilm => rfl
  | .bool _ | .int _ _ | .str _ => by simp [sameV]
  | .ptr a => sameA_self a
  | .slice a l c => by simp [sameV, sameA_self, sameCap_self]
  | .fn f cs => by simp [sameV, sameL_self cs]
  | .yld _ | .mapv _ => by simp [sameV]
  | .iface t v => by simp [sameV, sameV_self v]
  | .agg cs => sameL_self cs
  | .tup cs => sameL_self cs
theorem sameL_self : ∀ l : List AVal, sameL l l = true
  | [] => rfl
  | a :: l => by simp [sameL, sameV_self a, sameL_self l]
end
def okC : Col → Bool
  | .mix .. => false
  | _ => true
def okSs (l : List Seg) : Bool := l.all fun s => s.cols.all okC
def okBs : List Blk → Bool
  | [] => true
  | .segs l :: r => okSs l && okBs r
  | _ => false
theorem sameC_self {c : Col} (h : okC c = true) : sameC c c = true := by
  cases c <;> first | cases h; done | simp [sameC, sameL_self]
theorem sameCs_self : ∀ {l : List Col}, l.all okC = true → sameCs l l = true
  | [], _ => rfl
  | c :: l, h => by
    simp only [List.all_cons, Bool.and_eq_true] at h
    simp [sameCs, sameC_self h.1, sameCs_self h.2]
theorem sameSs_self : ∀ {l : List Seg}, okSs l = true → sameSs l l = true
  | [], _ => rfl
  | s :: l, h => by
    simp only [okSs, List.all_cons, Bool.and_eq_true] at h
    simp [sameSs, sameCs_self h.1, sameSs_self (l := l) h.2]
theorem sameBl_self : ∀ {l : List Blk}, okBs l = true → sameBl l l = true
  | [], _ => rfl
  | .segs s :: l, h => by
    simp only [okBs, Bool.and_eq_true] at h
    simp [sameBl, sameB, sameSs_self h.1, sameBl_self h.2]
  | .map _ :: _, h => by cases h
  | .loop .. :: _, h => by cases h
def eB (l : List Blk) : Bool := sameBl l l && true
def eV (l : List AVal) : Bool := sameL l l && true
theorem eV_eq (l : List AVal) : eV l = true := by simp [eV, sameL_self]
theorem eB_eq {l : List Blk} (h : okBs l = true) : eB l = true := by simp [eB, sameBl_self h]
def rg (a n : Nat) : List Nat := (List.range n).map (a + ·)
def inL (i : Int) (n : Nat) : Bool := decide (0 ≤ i) && decide (i < (n : Int))
def nL (i : Int) (n : Nat) : Bool := decide (0 + i.toNat < n)
theorem inL_in {i : Int} {n : Nat} (h : 0 ≤ i ∧ i < n) : inL i n = true := by simp [inL, h.1, h.2]
theorem nL_in {i : Int} {n : Nat} (h : 0 ≤ i ∧ i < n) : nL i n = true := decide_eq_true (by omega)
def eT (k : Nat) (ts : List (Nat × AVal)) (Bs : List Blk) (us : List (Nat × AVal)) (Cs : List Blk) : Bool := sameL (mkT k ts) (mkT k us) && sameBl Bs Cs
theorem eT_self {k : Nat} {ts us : List (Nat × AVal)} {Bs Ds : List Blk} (h1 : ts = us) (h2 : Bs = Ds) (h3 : okBs Bs = true) : eT k ts Bs us Ds = true := by
  subst h1; subst h2; simp only [eT, sameL_self, sameBl_self h3, Bool.and_self]
theorem br_no {α : Type} {Q : α → Prop} {c : Bool} {a b : TreeQ α} (hc : c = false) (hb : b.holds Q) : (TreeQ.br c a b).holds Q := by
  subst hc; exact ⟨fun h => absurd h Bool.false_ne_true, fun _ => hb⟩
theorem br_yes {α : Type} {Q : α → Prop} {c : Bool} {a b : TreeQ α} (hc : c = true) (ha : a.holds Q) : (TreeQ.br c a b).holds Q := by
  subst hc; exact ⟨fun _ => ha, fun h => absurd h.symm Bool.false_ne_true⟩
theorem brT_no {α : Type} {Q : α → Prop} {c : Bool} {a b : Tree α} (hc : c = false) (hb : b.holds Q) : (Tree.br c a b).holds Q := by
  subst hc; exact ⟨fun h => absurd h Bool.false_ne_true, fun _ => hb⟩
theorem brT_yes {α : Type} {Q : α → Prop} {c : Bool} {a b : Tree α} (hc : c = true) (ha : a.holds Q) : (Tree.br c a b).holds Q := by
  subst hc; exact ⟨fun _ => ha, fun h => absurd h.symm Bool.false_ne_true⟩
end Go.Proofs.Ytgkejpfahpbnkaa.Ab

namespace Go.Proofs.Ytgkejpfahpbnkaa.Ab
variable {P : Program} {E : Nat → Nat → Seg} {ra : Nat → Nat → Nat × Nat} {base : Nat} {S : Sums}
def keptOk {ξ : Type} (D : CDeal ξ) (l : List Nat) (x : ξ) (Bs : List Blk) : Bool :=
  nodupB l && (Nat.beq (D.blks x).length l.length && (sameBs (nm l) Bs (D.blks x) && usesBs (fun i => Nat.blt i l.length) (D.blks x)))
def callK {ξ : Type} (D : CDeal ξ) (dec : List AVal → List Blk → Option ξ) (as : List AVal) : AM AVal :=
  (reachA 40 0 (addNew [] (idsL as))).bind fun l => readsA l fun Bs => match dec as Bs with
    | some x => .need (keptOk D l x Bs) (.need (sameL as (renL (nm l) (D.args x)) && (usesL (fun i => Nat.blt i l.length) (D.args x) && usesV (fun i => Nat.blt i l.length) (D.out x)))
      (.need (D.pre x) (.pure (renV (nm l) (D.out x)))))
    | none => .fail
theorem sumK_deal (hE : Plain E) (hS : SumsOK P E ra base S) {f : FuncId} (hb : HasBody P f) {ξ : Type} {D : CDeal ξ} {dec : List AVal → List Blk → Option ξ}
    (ht : ∀ x, D.pre x = true → Gives P E ra base (D.blks x).length f (D.args x) (hp 0 (D.blks x)) fun v h' => v = D.out x ∧ h' = hp 0 (D.blks x)) : SumsOK P E ra base (sumF f (callK D dec) S) := by
  refine sumF_told hE hS hb fun as h v d r hr => ?_
  simp only [callK, runs_bind] at hr
  obtain ⟨l, d₁, r₁, d₂, r₂, g1, g2, rfl, rfl⟩ := hr
  have := reachA_runs _ _ _ g1
  subst this
  obtain ⟨Bs, r', h1, h2, hr⟩ := reads_runs g2
  rw [List.nil_append] at h2
  split at hr
  · rename_i x hx
    obtain ⟨hok, hr⟩ := hr
    obtain ⟨hts, hr⟩ := hr
    obtain ⟨hpre, hr⟩ := hr
    simp only [Bool.and_eq_true] at hts
    obtain ⟨t1, t2, t3⟩ := hts
    obtain ⟨rfl, rfl, rfl⟩ := hr
    simp only [keptOk, Bool.and_eq_true] at hok
    obtain ⟨k1, k2, k4, k5⟩ := hok
    have hn := nodupB_nodup k1
    have k2 := beq_of k2
    have st : Stand h (nm l) l.length l (D.blks x) := by
      refine stand_of k2.symm fun i B hi => ⟨?_, usesBs_get k5 hi⟩
      have hi' : i < l.length := by
        rcases Nat.lt_or_ge i (D.blks x).length with h' | h'
        · omega
        · simp [List.getElem?_eq_none h'] at hi
      rw [h2 i hi', sameBs_get k4 i, hi]; rfl
    refine ⟨l, D.args x, D.blks x, hn, st, sameL_eq t1, t2, ?_⟩
    have := ht x hpre
    rw [k2] at this
    refine this.mono fun y h' hy => ?_
    obtain ⟨rfl, rfl⟩ := hy
    refine ⟨[], D.blks x, rfl, by rw [List.append_nil]; exact hn, fun j hj => by simp at hj, fun j hj => by simp [ids] at hj, ?_, by rw [List.append_nil], by rw [List.append_nil]; exact t3⟩
    have e : l ++ [] = l := List.append_nil l
    rw [e]
    exact st
  · exact hr.elim
def firstB : List Nat → List Blk → AM AVal → AM AVal
  | i :: l, B :: _, k => .need (usesB (fun j => Nat.blt j (i :: l).length) B) (.upd i (some (renB (nm (i :: l)) B)) k)
  | _, _, _ => .fail
def callW {ξ : Type} (D : CDeal ξ) (dec : List AVal → List Blk → Option ξ) (as : List AVal) : AM AVal :=
  (reachA 40 0 (addNew [] (idsL as))).bind fun l => readsA l fun Bs => match dec as Bs with
    | some x => .need (keptOk D l x Bs) (.need (sameL as (renL (nm l) (D.args x)) && (usesL (fun i => Nat.blt i l.length) (D.args x) && usesV (fun i => Nat.blt i l.length) (D.out x)))
      (.need (D.pre x) (firstB l (D.blks' x) (.pure (renV (nm l) (D.out x))))))
    | none => .fail
theorem stand_first {h : Log} {σ : Nat → Nat} {k i : Nat} {B : Blk} : ∀ {l : List Nat} {Bs : List Blk}, i ∉ l → Stand h σ k l Bs → Stand ([(i, some B)] ++ h) σ k l Bs
  | [], [], _, _ => trivial
  | j :: l, A :: Bs, hi, ⟨h1, h2, h3⟩ => by
    refine ⟨?_, h2, stand_first (fun hm => hi (List.mem_cons_of_mem _ hm)) h3⟩
    have : Nat.beq i j = false := by
      cases hb : Nat.beq i j
      · rfl
      · exact absurd (Nat.eq_of_beq_eq_true hb) (fun e => hi (by simp [e]))
    simp only [List.singleton_append, view, this]
    exact h1
  | [], _ :: _, _, h => h.elim
  | _ :: _, [], _, h => h.elim
theorem sumW_deal (hE : Plain E) (hS : SumsOK P E ra base S) {f : FuncId} (hb : HasBody P f) {ξ : Type} {D : CDeal ξ} {dec : List AVal → List Blk → Option ξ}
    (htl : ∀ x, D.pre x = true → ∃ A B T, D.blks x = A :: T ∧ D.blks' x = B :: T)
    (ht : ∀ x, D.pre x = true → Gives P E ra base (D.blks x).length f (D.args x) (hp 0 (D.blks x)) fun v h' => v = D.out x ∧ h' = hp 0 (D.blks' x)) : SumsOK P E ra base (sumF f (callW D dec) S) := by
  refine sumF_told hE hS hb fun as h v d r hr => ?_
  simp only [callW, runs_bind] at hr
  obtain ⟨l, d₁, r₁, d₂, r₂, g1, g2, rfl, rfl⟩ := hr
  have := reachA_runs _ _ _ g1
  subst this
  obtain ⟨Bs, r', h1, h2, hr⟩ := reads_runs g2
  rw [List.nil_append] at h2 hr
  split at hr
  · rename_i x hx
    obtain ⟨hok, hr⟩ := hr
    obtain ⟨hts, hr⟩ := hr
    obtain ⟨hpre, hr⟩ := hr
    simp only [Bool.and_eq_true] at hts
    obtain ⟨t1, t2, t3⟩ := hts
    simp only [keptOk, Bool.and_eq_true] at hok
    obtain ⟨k1, k2, k4, k5⟩ := hok
    have hn := nodupB_nodup k1
    have k2 := beq_of k2
    have st : Stand h (nm l) l.length l (D.blks x) := by
      refine stand_of k2.symm fun i B hi => ⟨?_, usesBs_get k5 hi⟩
      have hi' : i < l.length := by
        rcases Nat.lt_or_ge i (D.blks x).length with h' | h'
        · omega
        · simp [List.getElem?_eq_none h'] at hi
      rw [h2 i hi', sameBs_get k4 i, hi]; rfl
    have key := ht x hpre
    rw [k2] at key
    obtain ⟨A, B, T, e1, e2⟩ := htl x hpre
    cases l with
    | nil => rw [e2] at hr; exact hr.elim
    | cons i l =>
      rw [e2] at hr
      obtain ⟨hu, b', d', r3, _, rfl, rfl, rfl, rfl, rfl⟩ := hr
      rw [e1] at st
      obtain ⟨s1, s2, s3⟩ := st
      refine ⟨i :: l, D.args x, D.blks x, hn, by rw [e1]; exact ⟨s1, s2, s3⟩, sameL_eq t1, t2, ?_⟩
      refine key.mono fun y h' hy => ?_
      obtain ⟨rfl, rfl⟩ := hy
      refine ⟨[], D.blks' x, rfl, by rw [List.append_nil]; exact hn, fun j hj => by simp at hj, fun j hj => by simp [ids] at hj; simp [hj], ?_, by rw [List.append_nil], by rw [List.append_nil]; exact t3⟩
      have e : i :: l ++ [] = i :: l := List.append_nil _
      rw [e, e2]
      have hb' : Nat.beq i i = true := Nat.beq_refl i
      refine ⟨by simp [view, hb'], hu, ?_⟩
      rw [List.nodup_cons] at hn
      simpa using stand_first hn.1 s3
  · exact hr.elim
end Go.Proofs.Ytgkejpfahpbnkaa.Ab
