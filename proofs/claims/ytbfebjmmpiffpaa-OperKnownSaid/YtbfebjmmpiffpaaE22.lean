/- What a call gives, told once: for a call whose arguments and whose result hold no block. -/
import Derived.Test.YtbfebjmmpiffpaaE21
namespace Go.Proofs.Ytbfebjmmpiffpaa.Ab

variable {P : Program} {E : Nat → Nat → Seg} {ra : Nat → Nat → Nat × Nat} {base : Nat} {S : Sums} {X : Exts} {R : Walk}

theorem relL_plain {ι ι' : Inj} {l : List AVal} {vs : List Value} (hu : usesL (fun _ => false) l = true) (h : RelL E ra ι l vs) : RelL E ra ι' l vs := by
  have := relL_ren (names_none (ι := ι) (ι' := ι') id) hu h
  rwa [renL_plain hu] at this

theorem small_nil (h : Log) : Small h [] 0 id :=
  ⟨fun i => by simp [ids], fun i hi => absurd hi (Nat.not_lt_zero _), fun _ _ hv => by simp [view] at hv, fun i j hi => absurd hi (Nat.not_lt_zero _), fun _ _ hv => by simp [view] at hv⟩

theorem told_nil (h dc : Log) : Told h [] dc [] 0 id id (fun _ => false) :=
  ⟨fun i hi => absurd hi (Nat.not_lt_zero _), fun _ _ hk => (by cases hk), fun _ _ _ _ hk => (by cases hk), fun _ hk => (by cases hk), fun _ hj => by simp [ids] at hj, fun _ _ hk => (by cases hk)⟩

/-- A call that gives a value without blocks of its own, out of such values: wherever it is made. -/
theorem plain_call (hE : Plain E) (hR : ExecOK P E ra base R) (hS : SumsOK P E ra base S) {f : FuncId} {as : List AVal} {v : AVal} {d : Log} {r : List Nat} (has : usesL (fun _ => false) as = true) (hv : usesV (fun _ => false) v = true)
    (hr : (callB P E S R f as).Runs [] v d r) : HasBody P f ∧ ∀ h, CallOK P E ra base f as h v [] := by
  obtain ⟨hb, hc⟩ := callB_sound hR hS hr
  refine ⟨hb, fun h ι w as' H ha => ?_⟩
  have H0 := (small_nil h).fwd hE H
  refine CallsIn.mono (hc _ w as' H0 (relL_plain has ha)) ?_
  rintro e w' ⟨v', ιc, rfl, h1, h2, h3⟩
  obtain ⟨ι', k1, k2, _⟩ := (told_nil h d).back (small_nil h) hE H h2 h3
  exact ⟨v', ι', rfl, rel_plain hv h1, k1, k2⟩

/-- One function more that is told. -/
def sumF (f : FuncId) (m : List AVal → AM AVal) (S : Sums) : Sums := fun g => match Nat.beq g f with
  | true => some m
  | false => S g

theorem sumF_ok {f : FuncId} {m : List AVal → AM AVal} (hS : SumsOK P E ra base S) (hb : HasBody P f) (hm : ∀ as h v d r, (m as).Runs h v d r → CallOK P E ra base f as h v d) : SumsOK P E ra base (sumF f m S) := by
  intro g s hs
  unfold sumF at hs
  cases hg : Nat.beq g f with
  | true =>
    have := Nat.eq_of_beq_eq_true hg
    subst this
    simp only [hg, Option.some.injEq] at hs
    subst hs
    exact ⟨hb, hm⟩
  | false =>
    simp only [hg] at hs
    exact hS g s hs

def constA (v : AVal) : List AVal → AM AVal
  | [] => .pure v
  | _ => .fail

/-- A function without parameters that gives a value without blocks. -/
theorem sumC_ok {R : Walk} (hE : Plain E) (hR : ExecOK P E ra base R) (hS : SumsOK P E ra base S) {f : FuncId} {v : AVal} (hv : usesV (fun _ => false) v = true) {d : Log} {r : List Nat} (hr : (callB P E S R f []).Runs [] v d r) :
    SumsOK P E ra base (sumF f (constA v) S) := by
  obtain ⟨hb, hc⟩ := plain_call hE hR hS (as := []) rfl hv hr
  refine sumF_ok hS hb fun as h u d r hu => ?_
  cases as with
  | nil => obtain ⟨rfl, rfl, rfl⟩ := hu; exact hc h
  | cons _ _ => exact hu.elim

def valE (o : Option (AVal × St)) : Option AVal := match o with
  | some (v, _) => some v
  | none => none

theorem runs_of_E {n : Nat} {f : FuncId} {as : List AVal} {v : AVal} (h : valE (callBE P E S (execE P E S X n) f as s0) = some v) : ∃ d r, (callB P E S (exec P E S X n) f as).Runs [] v d r := by
  rw [← callB_eval (exec_eval n)] at h
  cases he : (callB P E S (exec P E S X n) f as).eval s0 with
  | none => rw [he] at h; cases h
  | some p =>
    obtain ⟨u, s'⟩ := p
    rw [he] at h
    simp only [valE, Option.some.injEq] at h
    subst h
    obtain ⟨d, r, h1, _⟩ := eval_runs _ s0 _ s' (fun i hi => by cases hi) he
    exact ⟨d, r, h1⟩

theorem plain_noSeg : Plain noSeg := fun tid par j v h => by rw [noSeg_cell] at h; cases h

/-- One more, run to its end in the straight style; nothing is read from without. -/
theorem sumC_run {n : Nat} (hX : ExtsOK P E ra X) (hN : NamesOK P) (hm : P.follows .mixedOrders = true) (hE : Plain E) (hS : SumsOK P E ra base S) {f : FuncId} {v : AVal} (hv : usesV (fun _ => false) v = true)
    (h : valE (callBE P E S (execE P E S X n) f [] s0) = some v) : SumsOK P E ra base (sumF f (constA v) S) := by
  obtain ⟨d, r, hr⟩ := runs_of_E h
  exact sumC_ok hE (exec_sound hS hX hN hm n) hS hv hr

/-- A call without arguments that gives true, others being told. -/
theorem known_callsS {f n : Nat} (hS : ∀ base, SumsOK P noSeg noRa base S) (hX : ExtsOK P noSeg noRa X) (hN : NamesOK P) (hm : P.follows .mixedOrders = true) (h : valE (callBE P noSeg S (execE P noSeg S X n) f [] s0) = some (.bool true)) (w : World) :
    Calls P f #[] w fun e w' => e = .returned (.bool true) ∧ RowKit.Below w.heap.size w w' := by
  obtain ⟨d, r, hr⟩ := runs_of_E h
  exact calls_true (exec_sound (hS _) hX hN hm n) (hS _) (WRel.start0 w) .nil hr

end Go.Proofs.Ytbfebjmmpiffpaa.Ab
