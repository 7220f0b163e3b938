/- Binary operators, slice expressions, aggregates, conversions of numbers, lengths: against the model's. -/
import Derived.Test.YtcgebafffkpmfaaE05
namespace Go.Proofs.Ytcgebafffkpmfaa.Ab

variable {P : Program} {E : Nat → Nat → Seg} {ra : Nat → Nat → Nat × Nat} {base : Nat}

theorem shA_sound {ι : Inj} {h : Log} {w : World} (H : WRel E ra base ι h w) {op : BinOp} {k yk : IntKind} {x y : Int} (ho : op = .shl ∨ op = .shr) : SoundAt P E ra base ι h w (shA op k x y) (Op.shift op k x yk y) := by
  refine .of_pure H fun v d r hr => ?_
  rcases ho with rfl | rfl
  · simp only [shA, AM.Runs] at hr
    obtain ⟨h0, rfl, rfl, rfl⟩ := hr
    have h0' := of_decide_eq_true h0
    exact ⟨rfl, _, by simp [Op.shift, show ¬ y < 0 by omega, wr_eq], .int _ _⟩
  · simp only [shA, AM.Runs] at hr
    obtain ⟨h0, rfl, rfl, rfl⟩ := hr
    have h0' := of_decide_eq_true h0
    exact ⟨rfl, _, by simp [Op.shift, show ¬ y < 0 by omega], .int _ _⟩

theorem bitsA_sound {ι : Inj} {h : Log} {w : World} (H : WRel E ra base ι h w) {op : BinOp} {k : IntKind} {x y : Int} : SoundAt P E ra base ι h w (bitsA op k x y) (Op.intBits op k x y) := by
  refine .of_pure H fun v d r hr => ?_
  cases op <;> simp only [bitsA, AM.Runs] at hr <;> obtain ⟨rfl, rfl, rfl⟩ := hr <;> exact ⟨rfl, _, by simp only [Op.intBits, wr_eq]; rfl, .int _ _⟩

theorem intBinA_sound {ι : Inj} {h : Log} {w : World} (H : WRel E ra base ι h w) {op : BinOp} {t : TypeId} {k : IntKind} {m n : Int} (h1 : op ≠ .shl) (h2 : op ≠ .shr) :
    SoundAt P E ra base ι h w (intBinA op k m n) (binOp op t (.int k m) (.int k n)) := by
  have fin : ∀ v d r, (intBinA op k m n).Runs h v d r → d = [] ∧ ∃ v', (binOp op t (.int k m) (.int k n)).run P w = .ok v' w ∧ Rel E ra ι v v' := by
    intro v d r hr
    have key : ∀ op', (op' = .and ∨ op' = .or ∨ op' = .xor ∨ op' = .andNot) → op = op' → d = [] ∧ ∃ v', (binOp op t (.int k m) (.int k n)).run P w = .ok v' w ∧ Rel E ra ι v v' := by
      intro op' ho he
      subst he
      have hr' : (bitsA op k m n).Runs h v d r := by rcases ho with rfl | rfl | rfl | rfl <;> exact hr
      have hb : binOp op t (.int k m) (.int k n) = Op.intBits op k m n := by rcases ho with rfl | rfl | rfl | rfl <;> simp [binOp]
      rw [hb]
      rcases ho with rfl | rfl | rfl | rfl <;> simp only [bitsA, AM.Runs] at hr' <;> obtain ⟨rfl, rfl, rfl⟩ := hr' <;> exact ⟨rfl, _, by simp only [Op.intBits, wr_eq]; rfl, .int _ _⟩
    cases op with
    | shl => exact absurd rfl h1
    | shr => exact absurd rfl h2
    | and => exact key _ (.inl rfl) rfl
    | or => exact key _ (.inr (.inl rfl)) rfl
    | xor => exact key _ (.inr (.inr (.inl rfl))) rfl
    | andNot => exact key _ (.inr (.inr (.inr rfl))) rfl
    | quo =>
      simp only [intBinA, AM.Runs] at hr
      obtain ⟨h0, rfl, rfl, rfl⟩ := hr
      exact ⟨rfl, _, by simp [binOp, Op.intDiv, of_decide_eq_true h0, wr_eq], .int _ _⟩
    | rem =>
      simp only [intBinA, AM.Runs] at hr
      obtain ⟨h0, rfl, rfl, rfl⟩ := hr
      exact ⟨rfl, _, by simp [binOp, Op.intDiv, of_decide_eq_true h0], .int _ _⟩
    | add => simp only [intBinA, AM.Runs] at hr; obtain ⟨rfl, rfl, rfl⟩ := hr; exact ⟨rfl, _, by simp [binOp, Op.intArith, wr_eq], .int _ _⟩
    | sub => simp only [intBinA, AM.Runs] at hr; obtain ⟨rfl, rfl, rfl⟩ := hr; exact ⟨rfl, _, by simp [binOp, Op.intArith, wr_eq], .int _ _⟩
    | mul => simp only [intBinA, AM.Runs] at hr; obtain ⟨rfl, rfl, rfl⟩ := hr; exact ⟨rfl, _, by simp [binOp, Op.intArith, wr_eq], .int _ _⟩
    | lss => simp only [intBinA, AM.Runs] at hr; obtain ⟨rfl, rfl, rfl⟩ := hr; exact ⟨rfl, _, by simp [binOp, Op.intCmp], .bool _⟩
    | leq => simp only [intBinA, AM.Runs] at hr; obtain ⟨rfl, rfl, rfl⟩ := hr; exact ⟨rfl, _, by simp [binOp, Op.intCmp], .bool _⟩
    | gtr => simp only [intBinA, AM.Runs] at hr; obtain ⟨rfl, rfl, rfl⟩ := hr; exact ⟨rfl, _, by simp [binOp, Op.intCmp], .bool _⟩
    | geq => simp only [intBinA, AM.Runs] at hr; obtain ⟨rfl, rfl, rfl⟩ := hr; exact ⟨rfl, _, by simp [binOp, Op.intCmp], .bool _⟩
    | eql => simp only [intBinA, AM.Runs] at hr; obtain ⟨rfl, rfl, rfl⟩ := hr; exact ⟨rfl, _, by simp only [binOp, Op.intCmp]; simp, .bool _⟩
    | neq => simp only [intBinA, AM.Runs] at hr; obtain ⟨rfl, rfl, rfl⟩ := hr; exact ⟨rfl, _, by simp only [binOp, Op.intCmp]; simp, .bool _⟩
  exact .of_pure H fin

theorem run_eqGuard_of {ι : Inj} {w : World} {op : BinOp} {t : TypeId} {x y : Operand} {a b : AVal} {a' b' : Value} (hg : guardA P t x y a b = true) (ha : Rel E ra ι a a') (hb : Rel E ra ι b b') :
    (eqGuard op t x y a' b').run P w = .ok () w := by
  have key : ∀ op : BinOp, (op = .eql ∨ op = .neq) → (eqGuard op t x y a' b').run P w = .ok () w := by
    intro op hop
    cases ha <;> first
      | (simp [guardA] at hg; done)
      | (cases hb <;> first
          | (simp [guardA] at hg; done)
          | (rcases hop with rfl | rfl <;> simp [eqGuard]; done)
          | (simp only [guardA, Bool.not_eq_true'] at hg; exact run_eqGuard_agg w op t x y _ _ hg)
          | (simp only [guardA, Bool.or_eq_true] at hg
             rcases hg with hg | hg
             · cases x <;> simp [isConst] at hg
               rcases hop with rfl | rfl <;> simp [eqGuard]
             · cases y <;> simp [isConst] at hg
               rcases hop with rfl | rfl <;> cases x <;> simp [eqGuard]))
  cases op
  case eql => exact key _ (.inl rfl)
  case neq => exact key _ (.inr rfl)
  all_goals simp [eqGuard]

theorem binA_sound {ι : Inj} {h : Log} {w : World} (H : WRel E ra base ι h w) {op : BinOp} {t : TypeId} {x y : Operand} {a b : AVal} {a' b' : Value} (ha : Rel E ra ι a a') (hb : Rel E ra ι b b') :
    SoundAt P E ra base ι h w (binA P op t x y a b) (do eqGuard op t x y a' b'; binOp op t a' b') := by
  unfold binA
  split
  · -- numbers
    rename_i k m k' n
    cases ha; cases hb
    have hg : ∀ op, (eqGuard op t x y (.int k m) (.int k' n)).run P w = .ok () w := fun op => run_eqGuard_of (ι := ι) (E := E) (ra := ra) (a := .int k m) (b := .int k' n) rfl (.int _ _) (.int _ _)
    have lift : ∀ op (A : AM AVal), SoundAt P E ra base ι h w A (binOp op t (.int k m) (.int k' n)) → SoundAt P E ra base ι h w A (do eqGuard op t x y (.int k m) (.int k' n); binOp op t (.int k m) (.int k' n)) := by
      intro op A hA v d r hr
      obtain ⟨v', w', ι', h1, h2⟩ := hA v d r hr
      exact ⟨v', w', ι', by simp only [Sem.run_bind, hg, Result.andThen_ok, h1], h2⟩
    refine lift _ _ ?_
    split
    · have : binOp .shl t (.int k m) (.int k' n) = Op.shift .shl k m k' n := by simp [binOp]
      rw [this]; exact shA_sound H (.inl rfl)
    · have : binOp .shr t (.int k m) (.int k' n) = Op.shift .shr k m k' n := by simp [binOp]
      rw [this]; exact shA_sound H (.inr rfl)
    · rename_i hop1 hop2
      by_cases hk : k = k'
      · subst hk
        simp only [decide_true]
        exact intBinA_sound H (fun e => hop1 e) (fun e => hop2 e)
      · simp only [hk, decide_false]
        intro v d r hr; simp [AM.Runs] at hr
  · -- texts
    rename_i s s'
    cases ha; cases hb
    have hg : ∀ op, (eqGuard op t x y (.string s) (.string s')).run P w = .ok () w := fun op => run_eqGuard_of (ι := ι) (E := E) (ra := ra) (a := .str s) (b := .str s') rfl (.str _) (.str _)
    refine .of_pure H fun v d r hr => ?_
    simp only [Sem.run_bind, hg, Result.andThen_ok]
    split at hr
    · simp only [AM.Runs] at hr
      obtain ⟨h0, rfl, rfl, rfl⟩ := hr
      have h0' := of_decide_eq_true h0
      have hmax : IntKind.i64.max = 9223372036854775807 := rfl
      refine ⟨rfl, _, ?_, .str _⟩
      rw [binOp_string_add]
      simp only [Op.stringOp, hmax]
      rw [if_neg (by omega)]
      rfl
    · simp only [AM.Runs] at hr; obtain ⟨rfl, rfl, rfl⟩ := hr
      exact ⟨rfl, _, by rw [binOp_string_eql]; rfl, .bool _⟩
    · simp only [AM.Runs] at hr; obtain ⟨rfl, rfl, rfl⟩ := hr
      exact ⟨rfl, _, by rw [binOp_string_neq]; rfl, .bool _⟩
    · simp [AM.Runs] at hr
  · -- by their type
    rename_i hn1 hn2
    refine .of_pure H fun v d r hr => ?_
    cases hg : guardA P t x y a b with
    | false => simp [hg, AM.Runs] at hr
    | true =>
      simp only [hg] at hr
      simp only [Sem.run_bind, run_eqGuard_of (P := P) (op := op) (w := w) hg ha hb, Result.andThen_ok]
      have key : ∀ op, (op = .eql ∨ op = .neq) → binOp op t a' b' = (match op with | .eql => (do pure (.bool (← Op.equal t a' b'))) | _ => (do pure (.bool (!(← Op.equal t a' b'))))) := by
        intro op ho
        rcases ho with rfl | rfl
        · cases ha <;> first
            | (cases hb <;> first | (exact absurd rfl (hn1 _ _ _ _ rfl)) | (exact absurd rfl (hn2 _ _ rfl)) | rfl | (simp [guardA] at hg; done))
            | (simp [guardA] at hg; done)
        · cases ha <;> first
            | (cases hb <;> first | (exact absurd rfl (hn1 _ _ _ _ rfl)) | (exact absurd rfl (hn2 _ _ rfl)) | rfl | (simp [guardA] at hg; done))
            | (simp [guardA] at hg; done)
      split at hr
      · cases he : eqA P 100 t a b with
        | none => simp [he, AM.Runs] at hr
        | some q =>
          simp only [he, AM.Runs] at hr
          obtain ⟨rfl, rfl, rfl⟩ := hr
          have := eqA_sound (w := w) 100 t a b q a' b' he ha hb 10000 (by omega)
          refine ⟨rfl, .bool q, ?_, .bool _⟩
          rw [key _ (.inl rfl)]
          simp [Op.equal, Op.maxDepth, this]
      · cases he : eqA P 100 t a b with
        | none => simp [he, AM.Runs] at hr
        | some q =>
          simp only [he, AM.Runs] at hr
          obtain ⟨rfl, rfl, rfl⟩ := hr
          have := eqA_sound (w := w) 100 t a b q a' b' he ha hb 10000 (by omega)
          refine ⟨rfl, .bool !q, ?_, .bool _⟩
          rw [key _ (.inr rfl)]
          simp [Op.equal, Op.maxDepth, this]
      · simp [AM.Runs] at hr

theorem unA_sound {ι : Inj} {h : Log} {w : World} (H : WRel E ra base ι h w) {op : UnOp} {a : AVal} {a' : Value} (ha : Rel E ra ι a a') : SoundAt P E ra base ι h w (unA op a) (Op.unary op a') := by
  unfold unA
  split
  · cases ha
    refine .of_pure H fun v d r hr => ?_
    simp only [AM.Runs] at hr; obtain ⟨rfl, rfl, rfl⟩ := hr
    exact ⟨rfl, _, by simp [Op.unary, Op.intArith, wr_eq], .int _ _⟩
  · cases ha
    refine .of_pure H fun v d r hr => ?_
    simp only [AM.Runs] at hr; obtain ⟨rfl, rfl, rfl⟩ := hr
    exact ⟨rfl, _, by simp [Op.unary], .bool _⟩
  · cases ha
    exact bitsA_sound H
  · intro v d r hr; simp [AM.Runs] at hr

end Go.Proofs.Ytcgebafffkpmfaa.Ab
