/- Closed pieces: run by the evaluator, told as states. -/
import Derived.Test.YtbpcfjhnkjobaaaE32
namespace Go.Proofs.Ytbpcfjhnkjobaaa.Ab

variable {P : Program} {E : Nat → Nat → Seg} {ra : Nat → Nat → Nat × Nat} {base : Nat} {R : Walk}

/-- the state that a closed run comes to, told anew -/
def evalS (k : Nat) (l : List Nat) (mask : Nat) (m : AM (AExit × Tmps)) (s : St) : Option State := match m.eval s with
  | some (q, s') => match canon k l mask q s'.h with
    | some (true, x) => some x
    | _ => none
  | none => none

theorem takes_of_eval (hE : Plain E) (hR : ExecOK P E ra base R) {k : Nat} {f : FuncId} {pl : List Bool} {c : Code} (hat : At P f pl c) {ts : Tmps} {h : Log} {nx : Nat} (hnx : Below h nx) {l : List Nat} {mask : Nat} {x : State} {Q : State → Prop}
    (ht : evalS k l mask (R f pl false c ts) ⟨h, nx, [], []⟩ = some x) (hQ : Q x) : Takes P E ra base k c ts h Q := by
  intro ι w nb a hf
  unfold evalS at ht
  split at ht
  · rename_i q s' he
    split at ht
    · rename_i x' hx
      cases ht
      obtain ⟨d, r, h2, h3, _, _, _⟩ := eval_runs _ _ _ _ hnx he
      refine hR f pl none c ts ι h w nb a q d r hat hf h2 _ fun ι' a' w' f' k' => ?_
      rw [h3] at hx
      obtain ⟨ι'', f'', k''⟩ := canon_fit hE hx f'
      exact ⟨x, ι'', by rw [(canon_spec hx).1], hQ, f'', (k'.K k).trans k''⟩
    · cases ht
  · cases ht

end Go.Proofs.Ytbpcfjhnkjobaaa.Ab
