/- A call that is told by one of several contracts. -/
import Derived.Test.YtbpcfjhnkjobaaaE33
namespace Go.Proofs.Ytbpcfjhnkjobaaa.Ab

variable {P : Program} {E : Nat → Nat → Seg} {ra : Nat → Nat → Nat × Nat} {base : Nat} {S : Sums} {L : Loops}

/-- the first contract whose condition holds; else the last one -/
def pickD {ξ : Type} (as : List AVal) (l : List Nat) (dec : List AVal → List Blk → Option ξ) (x : ξ) : List ((ξ → Bool) × CDeal ξ) → CDeal ξ → AM AVal
  | [], D => callD D (fun _ => some l) dec as
  | (c, D) :: r, D' => .br (c x) (callD D (fun _ => some l) dec as) (pickD as l dec x r D')

def callNG {ξ : Type} (Ds : List ((ξ → Bool) × CDeal ξ)) (D : CDeal ξ) (dec : List AVal → List Blk → Option ξ) (as : List AVal) : AM AVal :=
  (reachA 40 0 (addNew [] (idsL as))).bind fun l => readsA l fun Bs => match dec as Bs with
    | some x => pickD as l dec x Ds D
    | none => .fail

def GivesD (P : Program) (E : Nat → Nat → Seg) (ra : Nat → Nat → Nat × Nat) (base : Nat) (f : FuncId) {ξ : Type} (D : CDeal ξ) : Prop :=
  ∀ x, D.pre x = true → Gives P E ra base (D.blks x).length f (D.args x) (hp 0 (D.blks x)) fun v h' => v = D.out x ∧ h' = hp 0 (D.blks' x)

theorem pickD_ok (hE : Plain E) (hS : SumsOK P E ra base S) {f : FuncId} (hb : HasBody P f) {ξ : Type} {dec : List AVal → List Blk → Option ξ} {as : List AVal} {l : List Nat} {x : ξ} {h : Log} {v : AVal} {d : Log} {r : List Nat} :
    ∀ (Ds : List ((ξ → Bool) × CDeal ξ)) (D : CDeal ξ), (∀ q ∈ Ds, GivesD P E ra base f q.2) → GivesD P E ra base f D → (pickD as l dec x Ds D).Runs h v d r → CallOK P E ra base f as h v d
  | [], D, _, hD, hr => by
    have key := sumF_deal hE hS hb (gets := fun _ => some l) (dec := dec) hD
    have := key f (callD D (fun _ => some l) dec) (by simp [sumF])
    exact this.2 as h v d r hr
  | (c, D) :: Ds, D', hDs, hD, hr => by
    simp only [pickD, AM.Runs] at hr
    cases hc : c x with
    | true =>
      rw [hc] at hr
      have key := sumF_deal hE hS hb (gets := fun _ => some l) (dec := dec) (hDs (c, D) (by simp))
      have := key f (callD D (fun _ => some l) dec) (by simp [sumF])
      exact this.2 as h v d r (by simpa using hr)
    | false =>
      rw [hc] at hr
      exact pickD_ok hE hS hb Ds D' (fun q hq => hDs q (by simp [hq])) hD (by simpa using hr)

theorem sumNG_deal (hE : Plain E) (hS : SumsOK P E ra base S) {f : FuncId} (hb : HasBody P f) {ξ : Type} {Ds : List ((ξ → Bool) × CDeal ξ)} {D : CDeal ξ} {dec : List AVal → List Blk → Option ξ}
    (h1 : ∀ q ∈ Ds, GivesD P E ra base f q.2) (h2 : GivesD P E ra base f D) : SumsOK P E ra base (sumF f (callNG Ds D dec) S) := by
  refine sumF_ok hS hb fun as h v d r hr => ?_
  simp only [callNG, runs_bind] at hr
  obtain ⟨l, d₁, r₁, d₂, r₂, g1, g2, rfl, rfl⟩ := hr
  have := reachA_runs _ _ _ g1
  subst this
  rw [List.append_nil]
  obtain ⟨Bs, r', _, _, g3⟩ := reads_runs g2
  split at g3
  · exact pickD_ok hE hS hb Ds D h1 h2 g3
  · exact g3.elim

/-- a call that is run to its end, and gives true -/
def evalTrue (m : AM AVal) : Bool := match m.eval ⟨[], 0, [], []⟩ with
  | some (.bool b, _) => b
  | _ => false

theorem gives_of_eval (hE : Plain E) {R : Walk} (hR : ExecOK P E ra base R) (hS : SumsOK P E ra base S) {f : FuncId} {as : List AVal} (ht : evalTrue (callB P E S R f as) = true) :
    HasBody P f ∧ Gives P E ra base 0 f as (hp 0 []) fun v h' => v = .bool true ∧ h' = hp 0 [] := by
  unfold evalTrue at ht
  split at ht
  · rename_i b s' he
    subst ht
    obtain ⟨d, r, h2, h3, _, _, _⟩ := eval_runs _ _ _ _ (fun i hi => by cases hi) he
    obtain ⟨hb, hc⟩ := callB_sound hR hS h2
    refine ⟨hb, fun ι w as' H ha => CallsIn.mono (hc ι w as' H ha) ?_⟩
    rintro e w' ⟨v', ι', rfl, g1, g2, g3⟩
    have hx : canon 0 [] 1 ((.ret, [.bool true]) : AExit × Tmps) (d ++ []) = some (true, (.ret, [.bool true], [])) := rfl
    have f' : Fit E ra base ι' (d ++ []) w' 0 [.bool true] { tmps := #[v'], defers := [] } := ⟨g2, .cons g1 .nil, .nil _ _ _ _, Nat.zero_le _⟩
    obtain ⟨ι'', f'', k''⟩ := canon_fit hE hx f'
    refine ⟨.bool true, v', [], ι'', rfl, ⟨rfl, rfl⟩, ?_, f''.rel, (g3.K 0).trans k''⟩
    have := f''.tmps
    cases this with | cons h1 _ => exact h1
  · cases ht

end Go.Proofs.Ytbpcfjhnkjobaaa.Ab
