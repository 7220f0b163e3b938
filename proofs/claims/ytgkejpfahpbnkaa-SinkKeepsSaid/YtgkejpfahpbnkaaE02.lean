/- The engine. -/
import Derived.Test.YtgkejpfahpbnkaaE01
import Derived.Laws.MakeOwn
import Derived.Laws.BytesArg

namespace Go.Proofs.Ytgkejpfahpbnkaa.Ab
variable {P : Program} {E : Nat → Nat → Seg} {ra : Nat → Nat → Nat × Nat} {base : Nat}
theorem shA_sound {ι : Inj} {h : Log} {w : World} (H : WRel E ra base ι h w) {op : BinOp} {k yk : IntKind} {x y : Int} (ho : op = .shl ∨ op = .shr) : SoundAt P E ra base ι h w (shA op k x y) (Op.shift op k x yk y) := by
  refine .of_pure H fun v d r hr => ?_
  rcases ho with rfl | rfl
  · simp only [shA, AM.Runs] at hr
    obtain ⟨h0, rfl, rfl, rfl⟩ := hr
    have h0' := of_decide_eq_true h0
    exact ⟨rfl, _, by simp [Op.shift, show ¬ y < 0 by omega, wr_eq], .int _ _⟩
  · simp only [shA, AM.Runs] at hr
    obtain ⟨h0, rfl, rfl, rfl⟩ := hr
    have h0' := of_decide_eq_true h0
    exact ⟨rfl, _, by simp [Op.shift, show ¬ y < 0 by omega], .int _ _⟩
theorem bitsA_sound {ι : Inj} {h : Log} {w : World} (H : WRel E ra base ι h w) {op : BinOp} {k : IntKind} {x y : Int} : SoundAt P E ra base ι h w (bitsA op k x y) (Op.intBits op k x y) := by
  refine .of_pure H fun v d r hr => ?_
  cases op <;> simp only [bitsA, AM.Runs] at hr <;> obtain ⟨rfl, rfl, rfl⟩ := hr <;> exact ⟨rfl, _, by simp only [Op.intBits, wr_eq]; rfl, .int _ _⟩
theorem intBinA_sound {ι : Inj} {h : Log} {w : World} (H : WRel E ra base ι h w) {op : BinOp} {t : TypeId} {k : IntKind} {m n : Int} (h1 : op ≠ .shl) (h2 : op ≠ .shr) :
    SoundAt P E ra base ι h w (intBinA op k m n) (binOp op t (.int k m) (.int k n)) := by
  have fin : ∀ v d r, (intBinA op k m n).Runs h v d r → d = [] ∧ ∃ v', (binOp op t (.int k m) (.int k n)).run P w = .ok v' w ∧ Rel E ra ι v v' := by
    intro v d r hr
    have key : ∀ op', (op' = .and ∨ op' = .or ∨ op' = .xor ∨ op' = .andNot) → op = op' → d = [] ∧ ∃ v', (binOp op t (.int k m) (.int k n)).run P w = .ok v' w ∧ Rel E ra ι v v' := by
      intro op' ho he
      subst he
      have hr' : (bitsA op k m n).Runs h v d r := by rcases ho with rfl | rfl | rfl | rfl <;> exact hr
      have hb : binOp op t (.int k m) (.int k n) = Op.intBits op k m n := by rcases ho with rfl | rfl | rfl | rfl <;> simp [binOp]
      rw [hb]
      rcases ho with rfl | rfl | rfl | rfl <;> simp only [bitsA, AM.Runs] at hr' <;> obtain ⟨rfl, rfl, rfl⟩ := hr' <;> exact ⟨rfl, _, by simp only [Op.intBits, wr_eq]; rfl, .int _ _⟩
    cases op with
    | shl => exact absurd rfl h1
    | shr => exact absurd rfl h2
    | and => exact key _ (.inl rfl) rfl
    | or => exact key _ (.inr (.inl rfl)) rfl
    | xor => exact key _ (.inr (.inr (.inl rfl))) rfl
    | andNot => exact key _ (.inr (.inr (.inr rfl))) rfl
    | quo =>
      simp only [intBinA, AM.Runs] at hr
      obtain ⟨h0, rfl, rfl, rfl⟩ := hr
      exact ⟨rfl, _, by simp [binOp, Op.intDiv, of_decide_eq_true h0, wr_eq], .int _ _⟩
    | rem =>
      simp only [intBinA, AM.Runs] at hr
      obtain ⟨h0, rfl, rfl, rfl⟩ := hr
      exact ⟨rfl, _, by simp [binOp, Op.intDiv, of_decide_eq_true h0], .int _ _⟩
    | add => simp only [intBinA, AM.Runs] at hr; obtain ⟨rfl, rfl, rfl⟩ := hr; exact ⟨rfl, _, by simp [binOp, Op.intArith, wr_eq], .int _ _⟩
    | sub => simp only [intBinA, AM.Runs] at hr; obtain ⟨rfl, rfl, rfl⟩ := hr; exact ⟨rfl, _, by simp [binOp, Op.intArith, wr_eq], .int _ _⟩
    | mul => simp only [intBinA, AM.Runs] at hr; obtain ⟨rfl, rfl, rfl⟩ := hr; exact ⟨rfl, _, by simp [binOp, Op.intArith, wr_eq], .int _ _⟩
    | lss => simp only [intBinA, AM.Runs] at hr; obtain ⟨rfl, rfl, rfl⟩ := hr; exact ⟨rfl, _, by simp [binOp, Op.intCmp], .bool _⟩
    | leq => simp only [intBinA, AM.Runs] at hr; obtain ⟨rfl, rfl, rfl⟩ := hr; exact ⟨rfl, _, by simp [binOp, Op.intCmp], .bool _⟩
    | gtr => simp only [intBinA, AM.Runs] at hr; obtain ⟨rfl, rfl, rfl⟩ := hr; exact ⟨rfl, _, by simp [binOp, Op.intCmp], .bool _⟩
    | geq => simp only [intBinA, AM.Runs] at hr; obtain ⟨rfl, rfl, rfl⟩ := hr; exact ⟨rfl, _, by simp [binOp, Op.intCmp], .bool _⟩
    | eql => simp only [intBinA, AM.Runs] at hr; obtain ⟨rfl, rfl, rfl⟩ := hr; exact ⟨rfl, _, by simp only [binOp, Op.intCmp]; simp, .bool _⟩
    | neq => simp only [intBinA, AM.Runs] at hr; obtain ⟨rfl, rfl, rfl⟩ := hr; exact ⟨rfl, _, by simp only [binOp, Op.intCmp]; simp, .bool _⟩
  exact .of_pure H fin
theorem run_eqGuard_of {ι : Inj} {w : World} {op : BinOp} {t : TypeId} {x y : Operand} {a b : AVal} {a' b' : Value} (hg : guardA P t x y a b = true) (ha : Rel E ra ι a a') (hb : Rel E ra ι b b') :
    (eqGuard op t x y a' b').run P w = .ok () w := by
  have key : ∀ op : BinOp, (op = .eql ∨ op = .neq) → (eqGuard op t x y a' b').run P w = .ok () w := by
    intro op hop
    cases ha <;> first
      | (simp [guardA] at hg; done)
      | (cases hb <;> first
          | (simp [guardA] at hg; done)
          | (rcases hop with rfl | rfl <;> simp [eqGuard]; done)
          | (simp only [guardA, Bool.not_eq_true'] at hg; exact run_eqGuard_agg w op t x y _ _ hg)
          | (simp only [guardA, Bool.or_eq_true] at hg
             rcases hg with hg | hg
             · cases x <;> simp [isConst] at hg
               rcases hop with rfl | rfl <;> simp [eqGuard]
             · cases y <;> simp [isConst] at hg
               rcases hop with rfl | rfl <;> cases x <;> simp [eqGuard]))
  cases op
  case eql => exact key _ (.inl rfl)
  case neq => exact key _ (.inr rfl)
  all_goals simp [eqGuard]
theorem binA_sound {ι : Inj} {h : Log} {w : World} (H : WRel E ra base ι h w) {op : BinOp} {t : TypeId} {x y : Operand} {a b : AVal} {a' b' : Value} (ha : Rel E ra ι a a') (hb : Rel E ra ι b b') :
    SoundAt P E ra base ι h w (binA P op t x y a b) (do eqGuard op t x y a' b'; binOp op t a' b') := by
  unfold binA
  split
  · -- numbers
    rename_i k m k' n
    cases ha; cases hb
    have hg : ∀ op, (eqGuard op t x y (.int k m) (.int k' n)).run P w = .ok () w := fun op => run_eqGuard_of (ι := ι) (E := E) (ra := ra) (a := .int k m) (b := .int k' n) rfl (.int _ _) (.int _ _)
    have lift : ∀ op (A : AM AVal), SoundAt P E ra base ι h w A (binOp op t (.int k m) (.int k' n)) → SoundAt P E ra base ι h w A (do eqGuard op t x y (.int k m) (.int k' n); binOp op t (.int k m) (.int k' n)) := by
      intro op A hA v d r hr
      obtain ⟨v', w', ι', h1, h2⟩ := hA v d r hr
      exact ⟨v', w', ι', by simp only [Sem.run_bind, hg, Result.andThen_ok, h1], h2⟩
    refine lift _ _ ?_
    split
    · have : binOp .shl t (.int k m) (.int k' n) = Op.shift .shl k m k' n := by simp [binOp]
      rw [this]; exact shA_sound H (.inl rfl)
    · have : binOp .shr t (.int k m) (.int k' n) = Op.shift .shr k m k' n := by simp [binOp]
      rw [this]; exact shA_sound H (.inr rfl)
    · rename_i hop1 hop2
      by_cases hk : k = k'
      · subst hk
        simp only [decide_true]
        exact intBinA_sound H (fun e => hop1 e) (fun e => hop2 e)
      · simp only [hk, decide_false]
        intro v d r hr; simp [AM.Runs] at hr
  · -- texts
    rename_i s s'
    cases ha; cases hb
    have hg : ∀ op, (eqGuard op t x y (.string s) (.string s')).run P w = .ok () w := fun op => run_eqGuard_of (ι := ι) (E := E) (ra := ra) (a := .str s) (b := .str s') rfl (.str _) (.str _)
    refine .of_pure H fun v d r hr => ?_
    simp only [Sem.run_bind, hg, Result.andThen_ok]
    split at hr
    · simp only [AM.Runs] at hr
      obtain ⟨h0, rfl, rfl, rfl⟩ := hr
      have h0' := of_decide_eq_true h0
      have hmax : IntKind.i64.max = 9223372036854775807 := rfl
      refine ⟨rfl, _, ?_, .str _⟩
      rw [binOp_string_add]
      simp only [Op.stringOp, hmax]
      rw [if_neg (by omega)]
      rfl
    · simp only [AM.Runs] at hr; obtain ⟨rfl, rfl, rfl⟩ := hr
      exact ⟨rfl, _, by rw [binOp_string_eql]; rfl, .bool _⟩
    · simp only [AM.Runs] at hr; obtain ⟨rfl, rfl, rfl⟩ := hr
      exact ⟨rfl, _, by rw [binOp_string_neq]; rfl, .bool _⟩
    · simp [AM.Runs] at hr
  · -- by their type
    rename_i hn1 hn2
    refine .of_pure H fun v d r hr => ?_
    cases hg : guardA P t x y a b with
    | false => simp [hg, AM.Runs] at hr
    | true =>
      simp only [hg] at hr
      simp only [Sem.run_bind, run_eqGuard_of (P := P) (op := op) (w := w) hg ha hb, Result.andThen_ok]
      have key : ∀ op, (op = .eql ∨ op = .neq) → binOp op t a' b' = (match op with | .eql => (do pure (.bool (← Op.equal t a' b'))) | _ => (do pure (.bool (!(← Op.equal t a' b'))))) := by
        intro op ho
        rcases ho with rfl | rfl
        · cases ha <;> first
            | (cases hb <;> first | (exact absurd rfl (hn1 _ _ _ _ rfl)) | (exact absurd rfl (hn2 _ _ rfl)) | rfl | (simp [guardA] at hg; done))
            | (simp [guardA] at hg; done)
        · cases ha <;> first
            | (cases hb <;> first | (exact absurd rfl (hn1 _ _ _ _ rfl)) | (exact absurd rfl (hn2 _ _ rfl)) | rfl | (simp [guardA] at hg; done))
            | (simp [guardA] at hg; done)
      split at hr
      · cases he : eqA P 100 t a b with
        | none => simp [he, AM.Runs] at hr
        | some q =>
          simp only [he, AM.Runs] at hr
          obtain ⟨rfl, rfl, rfl⟩ := hr
          have := eqA_sound (w := w) 100 t a b q a' b' he ha hb 10000 (by omega)
          refine ⟨rfl, .bool q, ?_, .bool _⟩
          rw [key _ (.inl rfl)]
          simp [Op.equal, Op.maxDepth, this]
      · cases he : eqA P 100 t a b with
        | none => simp [he, AM.Runs] at hr
        | some q =>
          simp only [he, AM.Runs] at hr
          obtain ⟨rfl, rfl, rfl⟩ := hr
          have := eqA_sound (w := w) 100 t a b q a' b' he ha hb 10000 (by omega)
          refine ⟨rfl, .bool !q, ?_, .bool _⟩
          rw [key _ (.inr rfl)]
          simp [Op.equal, Op.maxDepth, this]
      · simp [AM.Runs] at hr
theorem unA_sound {ι : Inj} {h : Log} {w : World} (H : WRel E ra base ι h w) {op : UnOp} {a : AVal} {a' : Value} (ha : Rel E ra ι a a') : SoundAt P E ra base ι h w (unA op a) (Op.unary op a') := by
  unfold unA
  split
  · cases ha
    refine .of_pure H fun v d r hr => ?_
    simp only [AM.Runs] at hr; obtain ⟨rfl, rfl, rfl⟩ := hr
    exact ⟨rfl, _, by simp [Op.unary, Op.intArith, wr_eq], .int _ _⟩
  · cases ha
    refine .of_pure H fun v d r hr => ?_
    simp only [AM.Runs] at hr; obtain ⟨rfl, rfl, rfl⟩ := hr
    exact ⟨rfl, _, by simp [Op.unary], .bool _⟩
  · cases ha
    exact bitsA_sound H
  · intro v d r hr; simp [AM.Runs] at hr
end Go.Proofs.Ytgkejpfahpbnkaa.Ab

namespace Go.Proofs.Ytgkejpfahpbnkaa.Ab
variable {P : Program} {E : Nat → Nat → Seg} {ra : Nat → Nat → Nat × Nat} {base : Nat}
def optI : Option AVal → Option (Option Int)
  | none => some none
  | some (.int _ n) => some (some n)
  | some _ => none
def needIf {α : Type} (o : Option Int) (y : Nat) (k : AM α) : AM α :=
  match o with
  | none => k
  | some v => .need (decide (0 ≤ v) && decide (v ≤ (y : Int))) k
def orNat (o : Option Int) (d : Nat) : Nat :=
  match o with
  | none => d
  | some v => v.toNat
def boundsA {α : Type} (len cap : Nat) (lo hi mx : Option Int) (k : Nat → Nat → Nat → AM α) : AM α :=
  match mx, hi with
  | some _, none => .fail
  | mx, hi => needIf mx cap (needIf hi (orNat mx cap) (needIf lo (orNat hi len) (k (orNat lo 0) (orNat hi len) (orNat mx cap))))
def OkI (o : Option Int) (y : Nat) : Prop := ∀ v, o = some v → 0 ≤ v ∧ v ≤ (y : Int)
theorem runs_needIf {α : Type} {o : Option Int} {y : Nat} {k : AM α} {h : Log} {a : α} {d : Log} {r : List Nat} : (needIf o y k).Runs h a d r ↔ OkI o y ∧ k.Runs h a d r := by
  cases o with
  | none => simp [needIf, OkI]
  | some v => simp [needIf, AM.Runs, OkI]
theorem runs_boundsA {α : Type} {len cap : Nat} {lo hi mx : Option Int} {k : Nat → Nat → Nat → AM α} {h : Log} {a : α} {d : Log} {r : List Nat} (hr : (boundsA len cap lo hi mx k).Runs h a d r) :
    OkI mx cap ∧ OkI hi (orNat mx cap) ∧ OkI lo (orNat hi len) ∧ (mx ≠ none → hi ≠ none) ∧ (k (orNat lo 0) (orNat hi len) (orNat mx cap)).Runs h a d r := by
  unfold boundsA at hr
  split at hr
  · simp [AM.Runs] at hr
  · rename_i hne
    simp only [runs_needIf] at hr
    refine ⟨hr.1, hr.2.1, hr.2.2.1, fun hm hh => ?_, hr.2.2.2⟩
    cases mx with
    | none => exact hm rfl
    | some v => exact hne v rfl hh
def RelO (o : Option Int) (o' : Option Value) : Prop :=
  match o, o' with
  | none, none => True
  | some n, some v => ∃ k, v = .int k n
  | _, _ => False
theorem relO {ι : Inj} {o : Option AVal} {o' : Option Value} {n : Option Int} (ho : optI o = some n) (hr : ∀ v, o = some v → ∃ v', o' = some v' ∧ Rel E ra ι v v') (hn : o = none → o' = none) : RelO n o' := by
  cases o with
  | none => simp only [optI, Option.some.injEq] at ho; subst ho; rw [hn rfl]; trivial
  | some v =>
    obtain ⟨v', rfl, hv⟩ := hr v rfl
    cases v <;> simp only [optI, Option.some.injEq] at ho <;> try (cases ho; done)
    subst ho
    cases hv
    exact ⟨_, rfl⟩
theorem run_bound {w : World} {k : IntKind} {i : Int} {y : Nat} {code : BoundsCode} (h : 0 ≤ i ∧ i ≤ (y : Int)) : (Instr.sliceBound (.int k i) y code).run P w = .ok i.toNat w := by
  simp [Instr.sliceBound, asIntOf, h.1, h.2]
theorem run_bounds {w : World} {isSlice : Bool} {len cap : Nat} {lo hi mx : Option Int} {lo' hi' mx' : Option Value} (h1 : OkI mx cap) (h2 : OkI hi (orNat mx cap)) (h3 : OkI lo (orNat hi len)) (h4 : mx ≠ none → hi ≠ none)
    (r1 : RelO lo lo') (r2 : RelO hi hi') (r3 : RelO mx mx') : (Instr.sliceBounds isSlice len cap lo' hi' mx').run P w = .ok (orNat lo 0, orNat hi len, orNat mx cap) w := by
  cases mx with
  | none =>
    cases mx' with
    | some _ => exact r3.elim
    | none =>
      cases hi with
      | none =>
        cases hi' with
        | some _ => exact r2.elim
        | none =>
          cases lo with
          | none => cases lo' with | some _ => exact r1.elim | none => simp [Instr.sliceBounds, orNat]
          | some l =>
            cases lo' with
            | none => exact r1.elim
            | some l' =>
              obtain ⟨kl, rfl⟩ := r1
              have e3 : 0 ≤ l ∧ l ≤ (len : Int) := h3 l rfl
              simp [Instr.sliceBounds, orNat, run_bound e3]
      | some hh =>
        have e2 : 0 ≤ hh ∧ hh ≤ (cap : Int) := h2 hh rfl
        cases hi' with
        | none => exact r2.elim
        | some hv =>
          obtain ⟨kh, rfl⟩ := r2
          cases lo with
          | none => cases lo' with | some _ => exact r1.elim | none => simp [Instr.sliceBounds, orNat, run_bound e2]
          | some l =>
            have e3 : 0 ≤ l ∧ l ≤ (hh.toNat : Int) := h3 l rfl
            cases lo' with
            | none => exact r1.elim
            | some l' =>
              obtain ⟨kl, rfl⟩ := r1
              simp [Instr.sliceBounds, orNat, run_bound e2, run_bound e3]
  | some m =>
    have e1 : 0 ≤ m ∧ m ≤ (cap : Int) := h1 m rfl
    cases mx' with
    | none => exact r3.elim
    | some mv =>
      obtain ⟨km, rfl⟩ := r3
      cases hi with
      | none => exact absurd rfl (h4 (by simp))
      | some hh =>
        have e2 : 0 ≤ hh ∧ hh ≤ (m.toNat : Int) := h2 hh rfl
        cases hi' with
        | none => exact r2.elim
        | some hv =>
          obtain ⟨kh, rfl⟩ := r2
          cases lo with
          | none => cases lo' with | some _ => exact r1.elim | none => simp [Instr.sliceBounds, orNat, run_bound e1, run_bound e2]
          | some l =>
            have e3 : 0 ≤ l ∧ l ≤ (hh.toNat : Int) := h3 l rfl
            cases lo' with
            | none => exact r1.elim
            | some l' =>
              obtain ⟨kl, rfl⟩ := r1
              simp [Instr.sliceBounds, orNat, run_bound e1, run_bound e2, run_bound e3]
section
variable (P E)
def capOf (cap : Option Nat) (mx : Option Int) (l m : Nat) : Option Nat :=
  match cap, mx with
  | none, none => none
  | _, _ => some (m - l)
def sliceA (t : TypeId) (x : AVal) (lo hi mx : Option AVal) : AM AVal :=
  match optI lo, optI hi, optI mx, P.underlying t, x with
  | some lo, some hi, some none, some .string, .str s => boundsA s.size s.size lo hi none fun l h _ => .pure (.str (s.extract l h))
  | some lo, some hi, some mx, some (.slice e), .nils => match P.info? e with
    | some _ => boundsA 0 0 lo hi mx fun _ _ _ => .pure .nils
    | none => .fail
  | some lo, some hi, some mx, some (.slice e), .slice a len cap => match P.info? e with
    | some inf => match a with
      | .own id off i st => match Nat.beq st inf.size with
        | true => boundsA len (cap.getD len) lo hi mx fun l h m => .pure (.slice (.own id off (i + l) st) (h - l) (capOf cap mx l m))
        | false => .fail
      | .ro tid par i c => match Nat.beq (E tid par).st inf.size with
        | true => boundsA len (cap.getD len) lo hi mx fun l h m => .pure (.slice (.ro tid par (i + l) c) (h - l) (capOf cap mx l m))
        | false => .fail
    | none => .fail
  | some lo, some hi, some mx, some (.array n e), .ptr (.own id off 0 0) => match P.info? e with
    | some inf => .read id fun b => match b with
      | .segs sg => match Nat.ble (off + n * inf.size) (total sg) with
        | true => boundsA n n lo hi mx fun l h m => .pure (.slice (.own id off l inf.size) (h - l) (some (m - l)))
        | false => .fail
      | _ => .fail
    | none => .fail
  | _, _, _, _, _ => .fail
end
theorem orNat_le {o : Option Int} {d y : Nat} (h : OkI o y) (hd : d ≤ y) : orNat o d ≤ y := by
  cases o with
  | none => exact hd
  | some v => have := h v rfl; simp only [orNat]; omega
def stOf (E : Nat → Nat → Seg) : AAddr → Nat
  | .own _ _ _ st => st
  | .ro tid par _ _ => (E tid par).st
def stepA : AAddr → Nat → AAddr
  | .own id off i st, l => .own id off (i + l) st
  | .ro tid par i c, l => .ro tid par (i + l) c
theorem relS_slice {ι : Inj} {a : AAddr} {len : Nat} {cap : Option Nat} {x : Addr} {cap' size : Nat} (hS : RelS E ra ι a len cap x cap') {lo hi mx : Option Int}
    (h1 : OkI mx (cap.getD len)) (h2 : OkI hi (orNat mx (cap.getD len))) (h3 : OkI lo (orNat hi len)) (h4 : mx ≠ none → hi ≠ none)
    (hst : stOf E a = size) :
    OkI mx cap' ∧ OkI hi (orNat mx cap') ∧ RelS E ra ι (stepA a (orNat lo 0)) (orNat hi len - orNat lo 0) (capOf cap mx (orNat lo 0) (orNat mx (cap.getD len)))
      (if orNat mx cap' = orNat lo 0 then x else x.add (orNat lo 0 * size)) (orNat mx cap' - orNat lo 0) := by
  obtain ⟨g1, g2, g3⟩ := hS
  have hcd : cap.getD len ≤ cap' := by
    cases cap with
    | none => simpa using g1
    | some c => have := g2 c rfl; simp; omega
  have k1 : OkI mx cap' := fun v hv => ⟨(h1 v hv).1, by have := (h1 v hv).2; omega⟩
  have k2 : OkI hi (orNat mx cap') := fun v hv => ⟨(h2 v hv).1, by
    have := (h2 v hv).2
    cases mx with
    | none => simp only [orNat] at this ⊢; omega
    | some m => exact this⟩
  have kh : orNat hi len ≤ orNat mx cap' := by
    cases hi with
    | some v => have := (k2 v rfl).2; simp only [orNat] at this ⊢; omega
    | none =>
      cases mx with
      | none => exact g1
      | some m =>
        exact absurd rfl (h4 (by simp))
  have kl : orNat lo 0 ≤ orNat hi len := orNat_le h3 (Nat.zero_le _)
  have km : orNat mx cap' ≤ cap' := orNat_le k1 (Nat.le_refl _)
  refine ⟨k1, k2, by omega, fun c hc => ?_, ?_⟩
  · cases cap with
    | none =>
      cases mx with
      | none => simp [capOf] at hc
      | some m => simp [capOf] at hc; simp only [orNat] at hc ⊢; exact hc
    | some c0 =>
      have := g2 c0 rfl
      subst this
      simp only [capOf, Option.getD_some, Option.some.injEq] at hc
      exact hc
  · by_cases hz : orNat mx cap' - orNat lo 0 = 0
    · exact .inl hz
    · right
      rcases g3 with g3 | g3
      · exfalso; omega
      · cases a with
        | own id off i st =>
          obtain ⟨b, o, sz, g4, rfl, g5⟩ := g3
          simp only [stOf] at hst
          subst hst
          refine ⟨b, o, sz, g4, ?_, ?_⟩
          · rw [if_neg (by omega), addr_add, Nat.add_mul]; congr 1; omega
          · have : (i + orNat lo 0 + (orNat mx cap' - orNat lo 0)) * st ≤ (i + cap') * st := Nat.mul_le_mul_right _ (by omega)
            omega
        | ro tid par i c =>
          simp only [stOf] at g3 hst
          subst g3
          show _ = _
          rw [if_neg (by omega), addr_add, ← hst, Nat.add_mul]; congr 1; omega
theorem run_slice_of {w : World} {t e : TypeId} {inf : TypeInfo} (hu : P.underlying t = some (.slice e)) (hi : P.info? e = some inf) {a : Option Addr} {len cap : Nat} {lo hi' mx : Option Value} {l h m : Nat}
    (hb : (Instr.sliceBounds true len cap lo hi' mx).run P w = .ok (l, h, m) w) :
    (Instr.sliceAt t (.slice a len cap) lo hi' mx).run P w = .ok (.slice (if m = l then a else a.map (·.add (l * inf.size))) (h - l) (m - l)) w := by
  simp [Instr.sliceAt, Instr.slice, run_underlying hu, hb, run_sizeOf hi]
theorem sliceA_sound {ι : Inj} {h : Log} {w : World} (H : WRel E ra base ι h w) {t : TypeId} {x : AVal} {x' : Value} (hx : Rel E ra ι x x') {lo hi mx : Option AVal} {lo' hi' mx' : Option Value}
    (rlo : ∀ v, lo = some v → ∃ v', lo' = some v' ∧ Rel E ra ι v v') (nlo : lo = none → lo' = none) (rhi : ∀ v, hi = some v → ∃ v', hi' = some v' ∧ Rel E ra ι v v') (nhi : hi = none → hi' = none)
    (rmx : ∀ v, mx = some v → ∃ v', mx' = some v' ∧ Rel E ra ι v v') (nmx : mx = none → mx' = none) :
    SoundAt P E ra base ι h w (sliceA P E t x lo hi mx) (Instr.sliceAt t x' lo' hi' mx') := by
  refine .of_pure H fun v d r hr => ?_
  unfold sliceA at hr
  split at hr
  · -- a text
    rename_i l0 h0 s e1 e2 e3 hu
    cases hx
    obtain ⟨b1, b2, b3, b4, hr⟩ := runs_boundsA hr
    obtain ⟨rfl, rfl, rfl⟩ := hr
    have q1 := relO e1 rlo nlo
    have q2 := relO e2 rhi nhi
    have q3 := relO e3 rmx nmx
    have hm : mx' = none := by cases mx' with | none => rfl | some _ => exact q3.elim
    subst hm
    have hb := run_bounds (P := P) (w := w) (isSlice := false) b1 b2 b3 b4 q1 q2 q3
    exact ⟨rfl, _, by simp [Instr.sliceAt, Instr.slice, run_underlying hu, hb], .str _⟩
  · -- the nil slice
    rename_i l0 h0 m0 e e1 e2 e3 hu
    cases hx
    cases hi0 : P.info? e with
    | none => simp [hi0, AM.Runs] at hr
    | some inf =>
    simp only [hi0] at hr
    obtain ⟨b1, b2, b3, b4, hr⟩ := runs_boundsA hr
    obtain ⟨rfl, rfl, rfl⟩ := hr
    have hb := run_bounds (P := P) (w := w) (isSlice := true) b1 b2 b3 b4 (relO e1 rlo nlo) (relO e2 rhi nhi) (relO e3 rmx nmx)
    have z3 : orNat m0 0 = 0 := Nat.le_zero.1 (orNat_le b1 (Nat.le_refl _))
    have z2 : orNat h0 0 = 0 := by have := orNat_le b2 (Nat.zero_le _); omega
    have z1 : orNat l0 0 = 0 := by have := orNat_le b3 (Nat.zero_le _); omega
    rw [z1, z2, z3] at hb
    exact ⟨rfl, _, by rw [run_slice_of hu hi0 hb]; rfl, .nils⟩
  · -- a slice
    rename_i l0 h0 m0 e a len cap e1 e2 e3 hu
    cases hx with | slice hS hNm =>
    rename_i y cap'
    cases hi0 : P.info? e with
    | none => simp [hi0, AM.Runs] at hr
    | some inf =>
      simp only [hi0] at hr
      have fin : ∀ a' : Nat → AAddr, stOf E a = inf.size →
          (boundsA len (cap.getD len) l0 h0 m0 fun l h m => (.pure (.slice (a' l) (h - l) (capOf cap m0 l m)) : AM AVal)).Runs h v d r →
          (∀ l, a' l = stepA a l) →
          d = [] ∧ ∃ v', (Instr.sliceAt t (.slice (some y) len cap') lo' hi' mx').run P w = .ok v' w ∧ Rel E ra ι v v' := by
        intro a' hst hr ha'
        obtain ⟨b1, b2, b3, b4, hr⟩ := runs_boundsA hr
        obtain ⟨rfl, rfl, rfl⟩ := hr
        obtain ⟨k1, k2, k3⟩ := relS_slice hS b1 b2 b3 b4 hst
        have hb := run_bounds (P := P) (w := w) (isSlice := true) k1 k2 b3 b4 (relO e1 rlo nlo) (relO e2 rhi nhi) (relO e3 rmx nmx)
        refine ⟨rfl, _, run_slice_of hu hi0 hb, ?_⟩
        rw [ha']
        have e : (if orNat m0 cap' = orNat l0 0 then some y else (some y).map (·.add (orNat l0 0 * inf.size))) = some (if orNat m0 cap' = orNat l0 0 then y else y.add (orNat l0 0 * inf.size)) := by split <;> rfl
        rw [e]
        exact .slice k3 (by cases a <;> exact hNm)
      cases a with
      | own id off i st =>
        simp only at hr
        cases hst : Nat.beq st inf.size with
        | false => simp [hst, AM.Runs] at hr
        | true =>
          simp only [hst] at hr
          exact fin (fun l => .own id off (i + l) st) (Nat.eq_of_beq_eq_true hst) hr (fun _ => rfl)
      | ro tid par i c =>
        simp only at hr
        cases hst : Nat.beq (E tid par).st inf.size with
        | false => simp [hst, AM.Runs] at hr
        | true =>
          simp only [hst] at hr
          exact fin (fun l => .ro tid par (i + l) c) (Nat.eq_of_beq_eq_true hst) hr (fun _ => rfl)
  · -- an array
    rename_i l0 h0 m0 n e id off e1 e2 e3 hu
    cases hx with | ptr hA =>
    obtain ⟨b, o, sz, hι, rfl⟩ := hA
    cases hi0 : P.info? e with
    | none => simp [hi0, AM.Runs] at hr
    | some inf =>
      simp only [hi0, AM.Runs] at hr
      obtain ⟨B, r', hv, rfl, hr⟩ := hr
      have hB := H.own id B hv
      cases B with
      | map es => simp [AM.Runs] at hr
      | loop ts ps as bd s p => simp [AM.Runs] at hr
      | segs sg =>
        simp only at hr
        cases hfit : Nat.ble (off + n * inf.size) (total sg) with
        | false => simp [hfit, AM.Runs] at hr
        | true =>
          simp only [hfit] at hr
          have hfit' := Nat.le_of_ble_eq_true hfit
          obtain ⟨b1, b2, b3, b4, hr⟩ := runs_boundsA hr
          obtain ⟨rfl, rfl, rfl⟩ := hr
          obtain ⟨b', o', cs', el, fz, g1, g2, g3, g4, g5, _⟩ := hB
          rw [hι] at g1
          simp only [Option.some.injEq, Prod.mk.injEq] at g1
          obtain ⟨rfl, rfl, rfl⟩ := g1
          have hb := run_bounds (P := P) (w := w) (isSlice := false) b1 b2 b3 b4 (relO e1 rlo nlo) (relO e2 rhi nhi) (relO e3 rmx nmx)
          have km : orNat m0 n ≤ n := orNat_le b1 (Nat.le_refl _)
          have kh : orNat h0 n ≤ orNat m0 n := by
            cases h0 with
            | some v => have := (b2 v rfl).2; simp only [orNat] at this ⊢; omega
            | none => cases m0 with | none => exact Nat.le_refl _ | some m => exact absurd rfl (b4 (by simp))
          have kl : orNat l0 0 ≤ orNat h0 n := orNat_le b3 (Nat.zero_le _)
          refine ⟨rfl, .slice (some (if orNat m0 n = orNat l0 0 then ⟨b, o + off + 0 * 0, none⟩ else (⟨b, o + off + 0 * 0, none⟩ : Addr).add (orNat l0 0 * inf.size))) (orNat h0 n - orNat l0 0) (orNat m0 n - orNat l0 0), ?_, .slice ⟨by omega, fun c hc => by simpa using hc, ?_⟩ ⟨_, hι⟩⟩
          · simp [Instr.sliceAt, run_underlying hu, Instr.sureAddr, hb, run_sizeOf hi0]
          · by_cases hz : orNat m0 n - orNat l0 0 = 0
            · exact .inl hz
            · right
              refine ⟨b, o, _, hι, ?_, ?_⟩
              · rw [if_neg (by omega), addr_add]; simp
              · have : (orNat l0 0 + (orNat m0 n - orNat l0 0)) * inf.size ≤ n * inf.size := Nat.mul_le_mul_right _ (by omega)
                omega
  · simp [AM.Runs] at hr
end Go.Proofs.Ytgkejpfahpbnkaa.Ab

namespace Go.Proofs.Ytgkejpfahpbnkaa.Ab
variable {P : Program} {E : Nat → Nat → Seg} {ra : Nat → Nat → Nat × Nat} {base : Nat}
def fillA (place : Nat → Option (Nat × Nat)) : List AVal → List (Nat × AVal) → Option (List AVal)
  | cells, [] => some cells
  | cells, (i, v) :: rest => match place i, cellsOfV v with
    | some (off, size), some vs => match Nat.beq vs.length size && Nat.ble (off + size) cells.length with
      | true => fillA place (cells.take off ++ (vs ++ cells.drop (off + size))) rest
      | false => none
    | _, _ => none
section
variable (P)
def zeroA (t : TypeId) : Option AVal :=
  match P.info? t with
  | some i => match i.zero with
    | some v => some (absV v)
    | none => none
  | none => none
def placeOf (fs : Array Field) (i : Nat) : Option (Nat × Nat) :=
  match fs[i]? with
  | some f => match P.info? f.type with
    | some inf => some (f.offset, inf.size)
    | none => none
  | none => none
def buildA (t : TypeId) (parts : List (Nat × AVal)) : Option AVal :=
  match zeroA P t with
  | some z => match cellsOfV z, P.underlying t with
    | some cells, some (.struct fs) => match fs.toList.all fun f => (P.info? f.type).isSome with
      | true => match fillA (placeOf P fs) cells parts with
        | some cs => some (.agg cs)
        | none => none
      | false => none
    | some cells, some (.array _ e) => match P.info? e with
      | some inf => match fillA (fun i => some (i * inf.size, inf.size)) cells parts with
        | some cs => some (.agg cs)
        | none => none
      | none => none
    | _, _ => none
  | none => none
end
theorem zeroA_sound {ι : Inj} {w : World} {t : TypeId} {z : AVal} (h : zeroA P t = some z) : ∃ z' i, P.info? t = some i ∧ i.zero = some z' ∧ (zeroValue t).run P w = .ok z' w ∧ Rel E ra ι z z' := by
  unfold zeroA at h
  cases hi : P.info? t with
  | none => simp [hi] at h
  | some i =>
    cases hz : i.zero with
    | none => simp [hi, hz] at h
    | some v =>
      simp only [hi, hz, Option.some.injEq] at h
      subst h
      exact ⟨v, i, rfl, hz, by simp [zeroValue, typeInfo, hi, hz], rel_absV ι v⟩
theorem foldl_fill (off : Nat) : ∀ (vs : List Value) (k : Nat) (cs : Array Value), off + k + vs.length ≤ cs.size →
    ((vs.zipIdx k).foldl (fun cs (c, j) => cs.setIfInBounds (off + j) c) cs).toList = cs.toList.take (off + k) ++ (vs ++ cs.toList.drop (off + k + vs.length))
  | [], k, cs, _ => by simp
  | v :: vs, k, cs, h => by
    simp only [List.length_cons] at h
    simp only [List.zipIdx_cons, List.foldl_cons]
    rw [foldl_fill off vs (k + 1) _ (by simp; omega)]
    simp only [Array.toList_setIfInBounds, List.length_cons]
    have e : off + (k + 1) = off + k + 1 := by omega
    rw [e]
    have hlt : off + k < cs.toList.length := by simp; omega
    rw [List.take_add_one, List.take_set_of_le (by omega), List.drop_set_of_lt (by omega)]
    simp only [List.getElem?_set_self hlt, Option.toList_some, List.append_assoc, List.singleton_append]
    congr 3; congr 1; omega
theorem fillA_sound {ι : Inj} {place : Nat → Option (Nat × Nat)} : ∀ (parts : List (Nat × AVal)) (parts' : List (Nat × Value)) (cells : List AVal) (cells' : Array Value) (cs : List AVal),
    RelL E ra ι cells cells'.toList → parts'.map (·.1) = parts.map (·.1) → RelL E ra ι (parts.map (·.2)) (parts'.map (·.2)) → fillA place cells parts = some cs →
    ∃ cs', Instr.fill place cells' parts' = some cs' ∧ RelL E ra ι cs cs'.toList
  | [], parts', cells, cells', cs, hc, he, _, h => by
    cases parts' with
    | cons => simp at he
    | nil => simp only [fillA, Option.some.injEq] at h; subst h; exact ⟨cells', rfl, hc⟩
  | (i, v) :: parts, parts', cells, cells', cs, hc, he, hp, h => by
    cases parts' with
    | nil => simp at he
    | cons p parts' =>
      obtain ⟨i', v'⟩ := p
      simp only [List.map_cons, List.cons.injEq] at he
      obtain ⟨rfl, he⟩ := he
      simp only [List.map_cons] at hp
      cases hp with | cons hv hp =>
      simp only [fillA] at h
      cases hpl : place i' with
      | none => simp [hpl] at h
      | some os =>
        obtain ⟨off, size⟩ := os
        cases hvs : cellsOfV v with
        | none => simp [hpl, hvs] at h
        | some vs =>
          simp only [hpl, hvs] at h
          cases hb : Nat.beq vs.length size && Nat.ble (off + size) cells.length with
          | false => simp [hb] at h
          | true =>
            simp only [hb] at h
            simp only [Bool.and_eq_true] at hb
            have h1 := Nat.eq_of_beq_eq_true hb.1
            have h2 := Nat.le_of_ble_eq_true hb.2
            have hvc := rel_cells hv hvs
            have l1 := hvc.length
            have l2 := hc.length
            simp only [Array.length_toList] at l1 l2
            have hsz : v'.cells.size = size := by omega
            have hfit : off + v'.cells.size ≤ cells'.size := by omega
            have hfold := foldl_fill off v'.cells.toList 0 cells' (by simpa using hfit)
            simp only [Nat.add_zero, Array.length_toList] at hfold
            have hR : RelL E ra ι (cells.take off ++ (vs ++ cells.drop (off + size))) (v'.cells.zipIdx.foldl (fun cs (c, j) => cs.setIfInBounds (off + j) c) cells').toList := by
              have : (v'.cells.zipIdx.foldl (fun cs (c, j) => cs.setIfInBounds (off + j) c) cells') = ((v'.cells.toList.zipIdx 0).foldl (fun cs (c, j) => cs.setIfInBounds (off + j) c) cells') := by
                rw [← Array.foldl_toList]; simp
              rw [this, hfold, hsz]
              exact (hc.take off).append (hvc.append (hc.drop _))
            obtain ⟨cs', k1, k2⟩ := fillA_sound parts parts' _ _ cs hR he hp h
            refine ⟨cs', ?_, k2⟩
            simp only [Instr.fill, hpl]
            rw [if_neg (by simp [hsz]; omega)]
            exact k1
theorem run_mapM_list {α β : Type} {w : World} (f : α → Sem β) (g : α → β) : ∀ (l : List α) (acc : Array β), (∀ a ∈ l, (f a).run P w = .ok (g a) w) →
    (l.foldlM (fun bs a => bs.push <$> f a) acc : Sem (Array β)).run P w = .ok (acc ++ (l.map g).toArray) w
  | [], acc, _ => by simp
  | a :: l, acc, h => by
    simp only [List.foldlM_cons, Sem.run_bind, Sem.run_map, h a (by simp), Result.andThen_ok]
    rw [run_mapM_list f g l _ (fun b hb => h b (by simp [hb]))]
    simp
theorem run_mapM {α β : Type} {w : World} (f : α → Sem β) (g : α → β) (l : Array α) (h : ∀ a ∈ l.toList, (f a).run P w = .ok (g a) w) : (l.mapM f).run P w = .ok (l.map g) w := by
  rw [Array.mapM_eq_foldlM, ← Array.foldlM_toList, run_mapM_list f g l.toList #[] h]
  congr 1
  apply Array.ext'
  simp
theorem fill_congr {p q : Nat → Option (Nat × Nat)} : ∀ (parts : List (Nat × Value)) (cells : Array Value) (r : Array Value), (∀ i x, q i = some x → p i = some x) → Instr.fill q cells parts = some r → Instr.fill p cells parts = some r
  | [], _, _, _, h => h
  | (i, v) :: parts, cells, r, hpq, h => by
    simp only [Instr.fill] at h ⊢
    cases hq : q i with
    | none => simp [hq] at h
    | some os =>
      rw [hpq i os hq]
      simp only [hq] at h ⊢
      split at h
      · cases h
      · rename_i hn; rw [if_neg hn]; exact fill_congr parts _ r hpq h
theorem buildA_sound {ι : Inj} {w : World} {t : TypeId} {parts : List (Nat × AVal)} {parts' : Array (Nat × Value)} {v : AVal} (he : parts'.toList.map (·.1) = parts.map (·.1)) (hp : RelL E ra ι (parts.map (·.2)) (parts'.toList.map (·.2)))
    (h : buildA P t parts = some v) : ∃ v', (Instr.build t parts').run P w = .ok v' w ∧ Rel E ra ι v v' := by
  unfold buildA at h
  cases hz : zeroA P t with
  | none => simp [hz] at h
  | some z =>
    obtain ⟨z', i, hi, hiz, hzr, hzR⟩ := zeroA_sound (E := E) (ra := ra) (ι := ι) (w := w) hz
    simp only [hz] at h
    cases hc : cellsOfV z with
    | none => simp [hc] at h
    | some cells =>
      have hcells := rel_cells hzR hc
      cases hu : P.underlying t with
      | none => simp [hc, hu] at h
      | some td =>
        simp only [hc, hu] at h
        split at h
        · rename_i cells0 fs e1 e2
          simp only [Option.some.injEq] at e1 e2
          subst e1; subst e2
          cases hall : fs.toList.all fun f => (P.info? f.type).isSome with
          | false => simp [hall] at h
          | true =>
            simp only [hall] at h
            cases hf : fillA (placeOf P fs) cells parts with
            | none => simp [hf] at h
            | some cs =>
              simp only [hf, Option.some.injEq] at h
              subst h
              obtain ⟨cs', k1, k2⟩ := fillA_sound parts parts'.toList cells z'.cells cs hcells he hp hf
              have hm := run_mapM (P := P) (w := w) (fun f : Field => Prod.mk f.offset <$> sizeOf f.type) (fun f => (f.offset, P.cellsOf f.type)) fs (fun f hf => by
                have := List.all_eq_true.1 hall f hf
                cases hfi : P.info? f.type with
                | none => simp [hfi] at this
                | some inf => simp [run_sizeOf hfi, Program.cellsOf, hfi])
              have k1' := fill_congr (p := ((fs.map fun f => (f.offset, P.cellsOf f.type))[·]?)) parts'.toList z'.cells cs' (fun i x hx => by
                unfold placeOf at hx
                cases hfi : fs[i]? with
                | none => simp [hfi] at hx
                | some f =>
                  cases hff : P.info? f.type with
                  | none => simp [hfi, hff] at hx
                  | some inf => simp only [hfi, hff, Option.some.injEq] at hx; subst hx; simp [hfi, Program.cellsOf, hff]) k1
              refine ⟨.agg cs', ?_, by simpa using Rel.agg k2⟩
              have k1'' : Instr.fill (fun x => Option.map (fun f : Field => (f.offset, P.cellsOf f.type)) fs[x]?) z'.cells parts'.toList = some cs' := by rw [← k1']; simp
              simp [Instr.build, hzr, run_underlying hu, hm, k1'']
        · rename_i cells0 n e e1 e2
          simp only [Option.some.injEq] at e1 e2
          subst e1; subst e2
          cases hei : P.info? e with
          | none => simp [hei] at h
          | some inf =>
            simp only [hei] at h
            cases hf : fillA (fun i => some (i * inf.size, inf.size)) cells parts with
            | none => simp [hf] at h
            | some cs =>
              simp only [hf, Option.some.injEq] at h
              subst h
              obtain ⟨cs', k1, k2⟩ := fillA_sound parts parts'.toList cells z'.cells cs hcells he hp hf
              refine ⟨.agg cs', ?_, by simpa using Rel.agg k2⟩
              simp [Instr.build, hzr, run_underlying hu, run_sizeOf hei, k1]
        · simp at h
section
variable (P)
def lenA (ts : Array TypeId) (x : AVal) : Option AVal :=
  match (ts[0]?).bind P.underlying, x with
  | some .string, .str s => some (.int .i64 s.size)
  | some (.array n _), _ => some (.int .i64 n)
  | some (.slice _), .nils => some (.int .i64 0)
  | some (.slice _), .slice _ n _ => some (.int .i64 n)
  | some (.pointer arr), _ => match P.underlying arr with
    | some (.array n _) => some (.int .i64 n)
    | _ => none
  | _, _ => none
def capA (ts : Array TypeId) (x : AVal) : Option AVal :=
  match (ts[0]?).bind P.underlying, x with
  | some (.array n _), _ => some (.int .i64 n)
  | some (.slice _), .nils => some (.int .i64 0)
  | some (.slice _), .slice _ _ (some n) => some (.int .i64 n)
  | _, _ => none
def minA : AVal → AVal → Option AVal
  | .int k x, .int _ y => some (.int k (if y < x then y else x))
  | _, _ => none
def maxA : AVal → AVal → Option AVal
  | .int k x, .int _ y => some (.int k (if y > x then y else x))
  | _, _ => none
def foldA (f : AVal → AVal → Option AVal) : AVal → List AVal → Option AVal
  | a, [] => some a
  | a, b :: l => match f a b with
    | some c => foldA f c l
    | none => none
end
theorem lenA_sound {ι : Inj} {w : World} {ts : Array TypeId} {ty : TypeId} {x v : AVal} {x' : Value} (hx : Rel E ra ι x x') (h : lenA P ts x = some v) : ∃ v', (Builtin.len_ ts ty #[x']).run P w = .ok v' w ∧ Rel E ra ι v v' := by
  unfold lenA at h
  cases ht : ts[0]? with
  | none => simp [ht] at h
  | some t =>
    simp only [ht, Option.bind_some] at h
    cases hu : P.underlying t with
    | none => simp [hu] at h
    | some td =>
      simp only [hu] at h
      split at h
      · rename_i e1; simp only [Option.some.injEq] at e1; subst e1; cases hx; simp only [Option.some.injEq] at h; subst h
        exact ⟨_, by simp [Builtin.len_, ht, run_underlying hu, goInt], .int _ _⟩
      · rename_i e1; simp only [Option.some.injEq] at e1; subst e1; simp only [Option.some.injEq] at h; subst h
        exact ⟨_, by simp [Builtin.len_, ht, run_underlying hu, goInt], .int _ _⟩
      · rename_i e1; simp only [Option.some.injEq] at e1; subst e1; cases hx; simp only [Option.some.injEq] at h; subst h
        exact ⟨_, by simp [Builtin.len_, ht, run_underlying hu, goInt], .int _ _⟩
      · rename_i e1; simp only [Option.some.injEq] at e1; subst e1; cases hx; simp only [Option.some.injEq] at h; subst h
        exact ⟨_, by simp [Builtin.len_, ht, run_underlying hu, goInt], .int _ _⟩
      · rename_i arr e1; simp only [Option.some.injEq] at e1; subst e1
        cases hu2 : P.underlying arr with
        | none => simp [hu2] at h
        | some td2 =>
          simp only [hu2] at h
          split at h
          · rename_i e2; simp only [Option.some.injEq] at e2; subst e2; simp only [Option.some.injEq] at h; subst h
            exact ⟨_, by simp [Builtin.len_, ht, run_underlying hu, run_underlying hu2, goInt], .int _ _⟩
          · cases h
      · cases h
theorem capA_sound {ι : Inj} {w : World} {ts : Array TypeId} {ty : TypeId} {x v : AVal} {x' : Value} (hx : Rel E ra ι x x') (h : capA P ts x = some v) : ∃ v', (Builtin.cap_ ts ty #[x']).run P w = .ok v' w ∧ Rel E ra ι v v' := by
  unfold capA at h
  cases ht : ts[0]? with
  | none => simp [ht] at h
  | some t =>
    simp only [ht, Option.bind_some] at h
    cases hu : P.underlying t with
    | none => simp [hu] at h
    | some td =>
      simp only [hu] at h
      split at h
      · rename_i e1; simp only [Option.some.injEq] at e1; subst e1; simp only [Option.some.injEq] at h; subst h
        exact ⟨_, by simp [Builtin.cap_, ht, run_underlying hu, goInt], .int _ _⟩
      · rename_i e1; simp only [Option.some.injEq] at e1; subst e1; cases hx; simp only [Option.some.injEq] at h; subst h
        exact ⟨_, by simp [Builtin.cap_, ht, run_underlying hu, goInt], .int _ _⟩
      · rename_i e1; simp only [Option.some.injEq] at e1; subst e1; cases hx with | slice hS hNm => simp only [Option.some.injEq] at h; subst h; have := hS.2.1 _ rfl; subst this; exact ⟨_, by simp [Builtin.cap_, ht, run_underlying hu, goInt], .int _ _⟩
      · cases h
theorem minA_sound {ι : Inj} {w : World} {a b v : AVal} {a' b' : Value} (ha : Rel E ra ι a a') (hb : Rel E ra ι b b') (h : minA a b = some v) : ∃ v', (Builtin.min2 a' b').run P w = .ok v' w ∧ Rel E ra ι v v' := by
  unfold minA at h
  split at h
  · cases ha; cases hb; simp only [Option.some.injEq] at h; subst h; exact ⟨_, rfl, .int _ _⟩
  · cases h
theorem maxA_sound {ι : Inj} {w : World} {a b v : AVal} {a' b' : Value} (ha : Rel E ra ι a a') (hb : Rel E ra ι b b') (h : maxA a b = some v) : ∃ v', (Builtin.max2 a' b').run P w = .ok v' w ∧ Rel E ra ι v v' := by
  unfold maxA at h
  split at h
  · cases ha; cases hb; simp only [Option.some.injEq] at h; subst h; exact ⟨_, rfl, .int _ _⟩
  · cases h
theorem foldA_sound {ι : Inj} {w : World} {f : AVal → AVal → Option AVal} {g : Value → Value → Sem Value} (hfg : ∀ a b v a' b', Rel E ra ι a a' → Rel E ra ι b b' → f a b = some v → ∃ v', (g a' b').run P w = .ok v' w ∧ Rel E ra ι v v') :
    ∀ (l : List AVal) (l' : List Value) (a : AVal) (a' : Value) (v : AVal), Rel E ra ι a a' → RelL E ra ι l l' → foldA f a l = some v → ∃ v', (l'.foldlM g a').run P w = .ok v' w ∧ Rel E ra ι v v'
  | [], l', a, a', v, ha, hl, h => by
    cases hl; simp only [foldA, Option.some.injEq] at h; subst h; exact ⟨a', by simp, ha⟩
  | b :: l, l', a, a', v, ha, hl, h => by
    cases hl with | cons hb hl =>
    simp only [foldA] at h
    cases hf : f a b with
    | none => simp [hf] at h
    | some c =>
      simp only [hf] at h
      obtain ⟨c', hc1, hc2⟩ := hfg _ _ _ _ _ ha hb hf
      obtain ⟨v', hv1, hv2⟩ := foldA_sound hfg l _ c c' v hc2 hl h
      exact ⟨v', by simp [hc1, hv1], hv2⟩
end Go.Proofs.Ytgkejpfahpbnkaa.Ab

namespace Go.Proofs.Ytgkejpfahpbnkaa.Ab
variable {P : Program} {E : Nat → Nat → Seg} {ra : Nat → Nat → Nat × Nat} {base : Nat}
def intsOf (k : IntKind) : List AVal → Option (List Int)
  | [] => some []
  | .int k' x :: l => match decide (k' = k), intsOf k l with
    | true, some xs => some (x :: xs)
    | _, _ => none
  | _ :: _ => none
def boolsOf : List AVal → Option (List Bool)
  | [] => some []
  | .bool x :: l => match boolsOf l with
    | some xs => some (x :: xs)
    | none => none
  | _ :: _ => none
def strsOf : List AVal → Option (List ByteArray)
  | [] => some []
  | .str x :: l => match strsOf l with
    | some xs => some (x :: xs)
    | none => none
  | _ :: _ => none
def colFrom (l : List AVal) : Col :=
  match l with
  | .int k _ :: _ => match intsOf k l with
    | some xs => .int k xs
    | none => .val l
  | .bool _ :: _ => match boolsOf l with
    | some xs => .bool xs
    | none => .val l
  | .str _ :: _ => match strsOf l with
    | some xs => .str xs
    | none => .val l
  | _ => .val l
theorem intsOf_map {k : IntKind} : ∀ {l : List AVal} {xs : List Int}, intsOf k l = some xs → l = xs.map (.int k)
  | [], xs, h => by simp only [intsOf, Option.some.injEq] at h; subst h; rfl
  | v :: l, xs, h => by
    cases v <;> simp only [intsOf] at h <;> try (cases h; done)
    rename_i k' x
    by_cases hk : k' = k
    · subst hk
      cases hl : intsOf k' l with
      | none => simp [hl] at h
      | some ys =>
        simp only [hl, decide_true, Option.some.injEq] at h
        subst h; simp [intsOf_map hl]
    · simp [hk] at h
theorem boolsOf_map : ∀ {l : List AVal} {xs : List Bool}, boolsOf l = some xs → l = xs.map .bool
  | [], xs, h => by simp only [boolsOf, Option.some.injEq] at h; subst h; rfl
  | v :: l, xs, h => by
    cases v <;> simp only [boolsOf] at h <;> try (cases h; done)
    cases hl : boolsOf l with
    | none => simp [hl] at h
    | some ys => simp only [hl, Option.some.injEq] at h; subst h; simp [boolsOf_map hl]
theorem strsOf_map : ∀ {l : List AVal} {xs : List ByteArray}, strsOf l = some xs → l = xs.map .str
  | [], xs, h => by simp only [strsOf, Option.some.injEq] at h; subst h; rfl
  | v :: l, xs, h => by
    cases v <;> simp only [strsOf] at h <;> try (cases h; done)
    cases hl : strsOf l with
    | none => simp [hl] at h
    | some ys => simp only [hl, Option.some.injEq] at h; subst h; simp [strsOf_map hl]
theorem colFrom_at (l : List AVal) : (colFrom l).len = l.length ∧ ∀ r, r < l.length → colAt (colFrom l) r = l.getD r .undef := by
  have hval : (Col.val l).len = l.length ∧ ∀ r, r < l.length → colAt (.val l) r = l.getD r .undef := ⟨rfl, fun r _ => rfl⟩
  unfold colFrom
  split
  · rename_i k x t
    cases h : intsOf k (.int k x :: t) with
    | none => exact hval
    | some xs =>
      simp only [intsOf_map h]
      refine ⟨by simp [Col.len], fun r hr => ?_⟩
      simp only [List.length_map] at hr
      simp [colAt, hr]
  · rename_i x t
    cases h : boolsOf (.bool x :: t) with
    | none => exact hval
    | some xs =>
      simp only [boolsOf_map h]
      refine ⟨by simp [Col.len], fun r hr => ?_⟩
      simp only [List.length_map] at hr
      simp [colAt, hr]
  · rename_i x t
    cases h : strsOf (.str x :: t) with
    | none => exact hval
    | some xs =>
      simp only [strsOf_map h]
      refine ⟨by simp [Col.len], fun r hr => ?_⟩
      simp only [List.length_map] at hr
      simp [colAt, hr]
  · exact hval
def segFrom (n st : Nat) (cs : List AVal) : Seg :=
  { n, st, cols := (List.range st).map fun c => colFrom ((List.range n).map fun r => cs.getD (r * st + c) .undef) }
theorem segFrom_wf (n st : Nat) (cs : List AVal) : (segFrom n st cs).WF := by
  refine ⟨by simp [segFrom], fun c hc => ?_⟩
  simp only [segFrom, List.mem_map] at hc
  obtain ⟨i, _, rfl⟩ := hc
  simp [(colFrom_at _).1, segFrom]
theorem segFrom_cell {n st : Nat} {cs : List AVal} {l : List Seg} {j : Nat} (h : j < n * st) : cellOf (segFrom n st cs :: l) j = some (cs.getD j .undef) := by
  have hp : 0 < st := by
    rcases Nat.eq_zero_or_pos st with h0 | h0
    · subst h0; simp at h
    · exact h0
  have hq : j / st < n := Nat.div_lt_of_lt_mul (by rw [Nat.mul_comm]; exact h)
  have hm : j % st < st := Nat.mod_lt _ hp
  have e : j % st + j / st * st = j := by rw [Nat.mul_comm]; exact Nat.mod_add_div j st
  have := seg_cell (s := segFrom n st cs) (l := l) (i := j / st) (c := j % st) hq hm
  simp only [segFrom] at this
  rw [e] at this
  rw [segFrom, this]
  simp only [List.getElem?_map, List.getElem?_range hm, Option.map_some]
  rw [(colFrom_at _).2 _ (by simpa using hq)]
  have e2 : j / st * st + j % st = j := by omega
  simp only [List.getD_eq_getElem?_getD, List.getElem?_map, List.getElem?_range hq, Option.map_some, Option.getD_some, e2]
def segsFrom : List (Nat × Nat) → List AVal → List Seg
  | [], _ => []
  | (n, st) :: l, cs => segFrom n st cs :: segsFrom l (cs.drop (n * st))
theorem segsFrom_wf : ∀ (l : List (Nat × Nat)) (cs : List AVal), WFs (segsFrom l cs)
  | [], _ => by intro s hs; simp [segsFrom] at hs
  | (n, st) :: l, cs => by
    intro s hs
    simp only [segsFrom, List.mem_cons] at hs
    rcases hs with rfl | hs
    · exact segFrom_wf _ _ _
    · exact segsFrom_wf l _ s hs
theorem segsFrom_cell : ∀ (l : List (Nat × Nat)) (cs : List AVal) (j : Nat), j < total (segsFrom l cs) → cellOf (segsFrom l cs) j = some (cs.getD j .undef)
  | [], cs, j, h => by simp [segsFrom, total] at h
  | (n, st) :: l, cs, j, h => by
    simp only [segsFrom]
    by_cases hj : j < n * st
    · exact segFrom_cell hj
    · have hn : (segFrom n st cs).n * (segFrom n st cs).st = n * st := rfl
      rw [cellOf_next (by rw [hn]; omega), hn]
      simp only [segsFrom, total, hn] at h
      rw [segsFrom_cell l _ _ (by omega)]
      simp only [List.getD_eq_getElem?_getD, List.getElem?_drop]
      congr 3; omega
section
variable (P)
def layout : Nat → TypeId → Option (List (Nat × Nat))
  | 0, _ => none
  | d + 1, t => match P.underlying t with
    | some (.struct fs) => fs.toList.foldr (fun f acc => match layout d f.type, acc with
      | some l, some r => some (l ++ r)
      | _, _ => none) (some [])
    | some (.array n e) => match P.info? e with
      | some i => some [(n, i.size)]
      | none => none
    | some _ => some [(1, 1)]
    | none => none
def newVarA (t : TypeId) (v : AVal) : AM AVal :=
  match layout P 100 t, cellsOfV v with
  | some ls, some cs => match Nat.ble (total (segsFrom ls cs)) cs.length with
    | true => .alloc (.segs (segsFrom ls cs)) fun id => .pure (.ptr (.own id 0 0 0))
    | false => .fail
  | _, _ => .fail
def allocA (t : TypeId) : AM AVal :=
  match zeroA P t with
  | some z => newVarA P t z
  | none => .fail
def storeA (t : TypeId) (a v : AVal) : AM AVal :=
  match P.info? t, cellsOfV v with
  | some inf, some cs => match Nat.beq cs.length inf.size && (!cs.isEmpty) && cs.all isCell with
    | true => match a with
      | .ptr (.own id off i st) => .read id fun b => match b with
        | .segs l => match Nat.beq st 0 with
          | true => match setFlat l off cs with
            | some l' => .upd id (some (.segs l')) (.pure .undef)
            | none => .fail
          | false => match findRow l off with
            | some (s, _) => match Nat.beq s.st st with
              | true => .need (decide (i < s.n)) (match setRow l off i cs with
                | some l' => .upd id (some (.segs l')) (.pure .undef)
                | none => .fail)
              | false => .fail
            | none => .fail
        | _ => .fail
      | _ => .fail
    | false => .fail
  | _, _ => .fail
end
theorem alloc_sound {ι : Inj} {h : Log} {w : World} (H : WRel E ra base ι h w) {id : Nat} (hi : id ∉ ids h) {l : List Seg} {cells : Array Value} {el : TypeId} (hw : WFs l) (ht : total l ≤ cells.size)
    (hc : ∀ j v, cellOf l j = some v → ∃ c, cells[j]? = some c ∧ Rel E ra ι v c) {w' : World} (hh : w'.heap = w.heap.push (.cells cells el)) (ho : w'.os = w.os) (htp : w'.tape = w.tape) (hp : w'.output = w.output) :
    WRel E ra base (put ι id (w.heap.size, 0, cells.size)) ((id, some (.segs l)) :: h) w' ∧ Keeps ι h w (put ι id (w.heap.size, 0, cells.size)) ((id, some (.segs l)) :: h) w' := by
  refine H.alloc hi _ hh ho htp hp (.segs l) (0, cells.size) ⟨w.heap.size, 0, cells, el, (0, 0), by simp [put], fun hr => absurd (H.le _ hr) (Nat.lt_irrefl _), ?_, by simp, by omega, hw, fun j v hv => ?_⟩
  · rw [hh]; simp
  · obtain ⟨c, h1, h2⟩ := hc j v hv
    exact ⟨c, by simpa using h1, h2.mono (put_ext (H.fresh hi))⟩
theorem alloc_sound_mark {ι : Inj} {h : Log} {w : World} (H : WRel E ra base ι h w) {id : Nat} (hi : id ∉ ids h) {l : List Seg} {cells : Array Value} {el : TypeId} (hw : WFs l) (ht : total l ≤ cells.size)
    (hc : ∀ j v, cellOf l j = some v → ∃ c, cells[j]? = some c ∧ Rel E ra ι v c) {w' : World} (hh : w'.heap = w.heap.push (.cells cells el (cells.size, cells.size + 1))) (ho : w'.os = w.os) (htp : w'.tape = w.tape) (hp : w'.output = w.output) :
    WRel E ra base (put ι id (w.heap.size, 0, cells.size)) ((id, some (.segs l)) :: h) w' ∧ Keeps ι h w (put ι id (w.heap.size, 0, cells.size)) ((id, some (.segs l)) :: h) w' := by
  refine H.alloc hi _ hh ho htp hp (.segs l) (0, cells.size) ⟨w.heap.size, 0, cells, el, (cells.size, cells.size + 1), by simp [put], fun hr => absurd (H.le _ hr) (Nat.lt_irrefl _), ?_, fun j hj => by simp only; omega, by omega, hw, fun j v hv => ?_⟩
  · rw [hh]; simp
  · obtain ⟨c, h1, h2⟩ := hc j v hv
    exact ⟨c, by simpa using h1, h2.mono (put_ext (H.fresh hi))⟩
theorem newVarA_sound {ι : Inj} {h : Log} {w : World} (H : WRel E ra base ι h w) {t : TypeId} {v : AVal} {v' : Value} (hv : Rel E ra ι v v') :
    SoundAt P E ra base ι h w (newVarA P t v) (do pure (.pointer (some (← newVar t v')))) := by
  intro x d r hr
  unfold newVarA at hr
  split at hr
  · rename_i ls cs e1 e2
    cases hb : Nat.ble (total (segsFrom ls cs)) cs.length with
    | false => simp [hb, AM.Runs] at hr
    | true =>
      simp only [hb, AM.Runs] at hr
      obtain ⟨i, d', hi, rfl, rfl, rfl, rfl⟩ := hr
      have hle := Nat.le_of_ble_eq_true hb
      have hcells := rel_cells hv e2
      have hlen := hcells.length
      simp only [Array.length_toList] at hlen
      have := alloc_sound (w' := { w with heap := w.heap.push (.cells v'.cells t) }) H hi (segsFrom_wf ls cs) (cells := v'.cells) (el := t) (by omega) (fun j y hy => by
        have hj := cellOf_lt hy
        rw [segsFrom_cell ls cs j hj] at hy
        simp only [Option.some.injEq] at hy
        subst hy
        have hjl : j < cs.length := by omega
        obtain ⟨c, hc1, hc2⟩ := hcells.get (i := j) (v := cs.getD j .undef) (by simp [hjl])
        exact ⟨c, by simpa using hc1, hc2⟩) rfl rfl rfl rfl
      refine ⟨.pointer (some ⟨w.heap.size, 0, none⟩), _, _, ?_, .ptr ⟨w.heap.size, 0, v'.cells.size, by simp [put], by simp⟩, this⟩
      simp [newVar, newRow]
  · simp [AM.Runs] at hr
theorem allocA_sound {ι : Inj} {h : Log} {w : World} (H : WRel E ra base ι h w) {t : TypeId} : SoundAt P E ra base ι h w (allocA P t) (Instr.alloc t true (.tuple #[])) := by
  intro x d r hr
  unfold allocA at hr
  cases hz : zeroA P t with
  | none => simp [hz, AM.Runs] at hr
  | some z =>
    simp only [hz] at hr
    obtain ⟨z', i, _, _, hzr, hzR⟩ := zeroA_sound (E := E) (ra := ra) (ι := ι) (w := w) hz
    obtain ⟨v', w', ι', h1, h2⟩ := newVarA_sound (P := P) H hzR x d r hr
    refine ⟨v', w', ι', ?_, h2⟩
    simp only [Instr.alloc, Sem.run_bind, hzr, Result.andThen_ok]
    exact h1
theorem boxA_sound {ι : Inj} {h : Log} {w : World} (H : WRel E ra base ι h w) {t : TypeId} {v : AVal} {v' : Value} (hv : Rel E ra ι v v') : SoundAt P E ra base ι h w (newVarA P t v) (Instr.box t v') := newVarA_sound H hv
theorem turn_sound {ι : Inj} {h : Log} {w : World} (H : WRel E ra base ι h w) {id b o sz : Nat} {l l' : List Seg} {at_ : Nat} {cs : List AVal} {vs : List Value} (hv : view h id = some (.segs l)) (hι : ι id = some (b, o, sz))
    (hs : Sets l l' at_ cs) (hR : RelL E ra ι cs vs) (hone : ∀ v ∈ vs, v.oneCell' = true) :
    ∃ w', (storeCells ⟨b, o + at_, none⟩ vs).run P w = .ok () w' ∧ WRel E ra base ι ((id, some (.segs l')) :: h) w' ∧ Keeps ι h w ι ((id, some (.segs l')) :: h) w' := by
  obtain ⟨b', o', cs', el, fz, g1, g2, g3, g4, g5, g6, g7⟩ := H.own id _ hv
  rw [hι] at g1
  simp only [Option.some.injEq, Prod.mk.injEq] at g1
  obtain ⟨rfl, rfl, rfl⟩ := g1
  have hlen := hR.length
  have hfit := hs.fits
  obtain ⟨w', cs2, r1, r2, r3, r4, r5, r6, r7, r8, r9⟩ := run_storeCells' (P := P) el fz b (o + at_) vs 0 w cs' g3 (by omega) g4 hone
  have := H.turn hv hι (B' := .segs l') (fun k hk => r5 k hk) r6 r7 r8 r9 ⟨b, o, cs2, el, fz, by rw [r3]; exact hι, g2, r2, by rw [r3]; exact g4, by rw [hs.tot, r3]; exact g5, hs.wf, fun j v hj => ?_⟩
  · exact ⟨w', r1, this⟩
  · rw [hs.cell] at hj
    rw [r4]
    by_cases hk : at_ ≤ j ∧ j < at_ + cs.length
    · rw [if_pos hk] at hj
      rw [if_pos (by omega)]
      obtain ⟨x, hx, hr⟩ := hR.get hj
      exact ⟨x, by rw [← hx]; congr 1; omega, hr⟩
    · rw [if_neg hk] at hj
      rw [if_neg (by omega)]
      exact g7 j v hj
theorem storeA_sound {ι : Inj} {h : Log} {w : World} (H : WRel E ra base ι h w) {t : TypeId} {a v : AVal} {a' v' : Value} (ha : Rel E ra ι a a') (hv : Rel E ra ι v v') {x : AVal} {d : Log} {r : List Nat}
    (hr : (storeA P t a v).Runs h x d r) : x = .undef ∧ ∃ w', (Instr.storeAt t a' v').run P w = .ok () w' ∧ WRel E ra base ι (d ++ h) w' ∧ Keeps ι h w ι (d ++ h) w' := by
  unfold storeA at hr
  split at hr
  · rename_i inf cs e1 e2
    cases hb : Nat.beq cs.length inf.size && (!cs.isEmpty) && cs.all isCell with
    | false => simp [hb, AM.Runs] at hr
    | true =>
      simp only [hb] at hr
      simp only [Bool.and_eq_true, Bool.not_eq_true'] at hb
      have hsz := Nat.eq_of_beq_eq_true hb.1.1
      have hne : cs ≠ [] := by intro e; subst e; simp at hb
      have hcells := rel_cells hv e2
      have hlen := hcells.length
      simp only [Array.length_toList] at hlen
      have hone : ∀ u ∈ v'.cells.toList, u.oneCell' = true := by
        intro u hu
        obtain ⟨k, hk, rfl⟩ := List.getElem_of_mem hu
        have hk' : k < cs.length := by simpa [hlen] using hk
        obtain ⟨y, hy, hyr⟩ := hcells.get (i := k) (v := cs[k]) (by simp [hk'])
        rw [List.getElem?_eq_getElem hk] at hy
        simp only [Option.some.injEq] at hy
        rw [hy]
        exact rel_oneCell hyr (List.all_eq_true.1 hb.2 _ (List.getElem_mem hk'))
      split at hr
      · rename_i id off i st
        cases ha with | ptr hA =>
        obtain ⟨b, o, sz, hι, rfl⟩ := hA
        simp only [AM.Runs] at hr
        obtain ⟨B, r', hvw, rfl, hr⟩ := hr
        cases B with
        | map es => simp [AM.Runs] at hr
        | loop ts ps as bd s p => simp [AM.Runs] at hr
        | segs l =>
          simp only at hr
          obtain ⟨_, _, _, _, _, _, _, _, _, _, hwf, _⟩ := H.own id _ hvw
          have fin : ∀ l' at_, Sets l l' at_ cs → at_ = off + i * st → (AM.upd id (some (.segs l')) (.pure AVal.undef)).Runs h x d r' →
              x = .undef ∧ ∃ w', (Instr.storeAt t (.pointer (some ⟨b, o + off + i * st, none⟩)) v').run P w = .ok () w' ∧ WRel E ra base ι (d ++ h) w' ∧ Keeps ι h w ι (d ++ h) w' := by
            intro l' at_ hs hat hr
            simp only [AM.Runs] at hr
            obtain ⟨b', d', r2, _, rfl, rfl, rfl, rfl, rfl⟩ := hr
            obtain ⟨w', k1, k2, k3⟩ := turn_sound (P := P) H hvw hι hs hcells hone
            refine ⟨rfl, w', ?_, k2, k3⟩
            have e : o + at_ = o + off + i * st := by omega
            rw [e] at k1
            simp [Instr.storeAt, Instr.sureAddr, storeVar, run_sizeOf e1, show v'.cells.size = inf.size by omega, k1]
          cases hst : Nat.beq st 0 with
          | true =>
            have := Nat.eq_of_beq_eq_true hst
            subst this
            simp only at hr
            cases hsf : setFlat l off cs with
            | none => simp [hsf, AM.Runs] at hr
            | some l' =>
              simp only [hsf] at hr
              exact fin l' off (setFlat_sets hwf (fun e => absurd e hne) hsf) (by omega) hr
          | false =>
            simp only [hst] at hr
            cases hf : findRow l off with
            | none => simp [hf, AM.Runs] at hr
            | some p =>
              obtain ⟨s, c⟩ := p
              simp only [hf] at hr
              cases hst2 : Nat.beq s.st st with
              | false => simp [hst2, AM.Runs] at hr
              | true =>
                have := Nat.eq_of_beq_eq_true hst2
                subst this
                simp only [hst2, AM.Runs] at hr
                obtain ⟨hi, hr⟩ := hr
                have hi' := of_decide_eq_true hi
                cases hsr : setRow l off i cs with
                | none => simp [hsr, AM.Runs] at hr
                | some l' =>
                  simp only [hsr] at hr
                  exact fin l' _ (setRow_sets hwf hf hsr hi' hne) rfl hr
      · simp [AM.Runs] at hr
  · simp [AM.Runs] at hr
def colOf (n : Nat) : AVal → Col
  | .int k x => .int k (List.replicate n x)
  | .bool x => .bool (List.replicate n x)
  | .str x => .str (List.replicate n x)
  | v => .val (List.replicate n v)
theorem colOf_at (n : Nat) (v : AVal) : (colOf n v).len = n ∧ ∀ r, r < n → colAt (colOf n v) r = v := by
  unfold colOf
  split <;> exact ⟨by simp [Col.len], fun r hr => by simp [colAt, hr]⟩
def rep {α : Type} (l : List α) : Nat → List α
  | 0 => []
  | n + 1 => l ++ rep l n
section
variable (P)
def makeSliceA (t : TypeId) (len cap : AVal) : AM AVal :=
  match P.underlying t, len, cap with
  | some (.slice e), .int _ l, .int _ c => match P.info? e, (zeroA P e).bind cellsOfV with
    | some inf, some z => match Nat.beq z.length inf.size && Nat.ble inf.bytes 256 with
      | true => .need (decide (0 ≤ l) && decide (l ≤ c) && decide (c ≤ 1099511627776)) <|
        .alloc (.segs [{ n := c.toNat, st := inf.size, cols := z.map (colOf c.toNat) }]) fun id => .pure (.slice (.own id 0 0 inf.size) l.toNat (some c.toNat))
      | false => .fail
    | _, _ => .fail
  | _, _, _ => .fail
def buildSliceA (t : TypeId) (len : Nat) (parts : List (Nat × AVal)) : AM AVal :=
  match P.underlying t with
  | some (.slice e) => match P.info? e, (zeroA P e).bind cellsOfV with
    | some inf, some z => match Nat.beq z.length inf.size && Nat.ble (len * inf.size) 16777216, fillA (fun i => some (i * inf.size, inf.size)) (rep z len) parts with
      | true, some cs => .alloc (.segs [segFrom len inf.size cs]) fun id => .pure (.slice (.own id 0 0 inf.size) len (some len))
      | _, _ => .fail
    | _, _ => .fail
  | _ => .fail
end
theorem relL_rep {ι : Inj} {l : List AVal} {l' : List Value} (h : RelL E ra ι l l') : ∀ n, RelL E ra ι (rep l n) (rep l' n)
  | 0 => .nil
  | n + 1 => h.append (relL_rep h n)
theorem rep_length {α : Type} (l : List α) : ∀ n, (rep l n).length = n * l.length
  | 0 => by simp [rep]
  | n + 1 => by simp [rep, rep_length l n, Nat.add_mul]; omega
theorem rep_get {α : Type} (l : List α) : ∀ (n j : Nat), j < n * l.length → (rep l n)[j]? = l[j % l.length]?
  | 0, j, h => by simp at h
  | n + 1, j, h => by
    rw [Nat.add_mul] at h
    simp only [rep]
    by_cases hj : j < l.length
    · rw [List.getElem?_append_left hj, Nat.mod_eq_of_lt hj]
    · rw [List.getElem?_append_right (by omega), rep_get l n _ (by omega)]
      rw [← Nat.mod_eq_sub_mod (by omega)]
theorem madeCells_get (z : Array Value) (n j : Nat) (h : j < n) : (madeCells z n)[j]? = some (z[j % z.size]!) := by
  simp [madeCells, h]
theorem makeSliceA_sound {ι : Inj} {h : Log} {w : World} (H : WRel E ra base ι h w) {t : TypeId} {l c : AVal} {l' c' : Value} (hl : Rel E ra ι l l') (hc : Rel E ra ι c c') :
    SoundAt P E ra base ι h w (makeSliceA P t l c) (Instr.makeSlice t l' c') := by
  intro x d r hr
  unfold makeSliceA at hr
  split at hr
  · rename_i e kl l0 kc c0 hu
    cases hl; cases hc
    split at hr
    · rename_i inf z e1 e2
      cases hb : Nat.beq z.length inf.size && Nat.ble inf.bytes 256 with
      | false => simp [hb, AM.Runs] at hr
      | true =>
        simp only [hb, AM.Runs] at hr
        obtain ⟨hn, i, d', hi, rfl, rfl, rfl, rfl⟩ := hr
        simp only [Bool.and_eq_true, decide_eq_true_eq] at hn hb
        obtain ⟨⟨h0, h1⟩, h2⟩ := hn
        have hzl := Nat.eq_of_beq_eq_true hb.1
        have hby := Nat.le_of_ble_eq_true hb.2
        cases hz : zeroA P e with
        | none => simp [hz] at e2
        | some zv =>
          simp only [hz, Option.bind_some] at e2
          obtain ⟨z', i', hi', hiz, hzr, hzR⟩ := zeroA_sound (E := E) (ra := ra) (ι := ι) (w := w) hz
          rw [e1] at hi'
          simp only [Option.some.injEq] at hi'
          subst hi'
          have hcells := rel_cells hzR e2
          have hlen := hcells.length
          simp only [Array.length_toList] at hlen
          have hbytes : (inf.bytes : Int) * c0 ≤ 281474976710656 := by
            have a2 : (0 : Int) ≤ c0 := by omega
            have b1 : (inf.bytes : Int) * c0 ≤ 256 * c0 := Int.mul_le_mul_of_nonneg_right (by omega) a2
            omega
          have hrun := run_make (P := P) w t e inf z' hu e1 hiz kl kc l0 c0 h0 h1 hbytes (by omega)
          have hsz := size_madeCells z'.cells (c0.toNat * inf.size)
          have := alloc_sound (w' := w.alloc (.cells (madeCells z'.cells (c0.toNat * inf.size)) e)) (l := [{ n := c0.toNat, st := inf.size, cols := z.map (colOf c0.toNat) }]) H hi (fun s hs => by
              simp only [List.mem_singleton] at hs; subst hs
              refine ⟨by simp [hzl], fun c hc => ?_⟩
              simp only [List.mem_map] at hc
              obtain ⟨v, _, rfl⟩ := hc
              exact (colOf_at _ v).1) (cells := madeCells z'.cells (c0.toNat * inf.size)) (el := e) (by simp [total, hsz]) (fun j v hj => by
              have hlt := cellOf_lt hj
              simp only [total, Nat.add_zero] at hlt
              have hp : 0 < inf.size := by
                rcases Nat.eq_zero_or_pos inf.size with hh | hh
                · rw [hh] at hlt; simp at hlt
                · exact hh
              have hm : j % inf.size < inf.size := Nat.mod_lt _ hp
              have hq : j / inf.size < c0.toNat := Nat.div_lt_of_lt_mul (by rw [Nat.mul_comm]; exact hlt)
              have ecell := seg_cell (s := { n := c0.toNat, st := inf.size, cols := z.map (colOf c0.toNat) }) (l := []) (i := j / inf.size) (c := j % inf.size) hq hm
              simp only [show j % inf.size + j / inf.size * inf.size = j by rw [Nat.mul_comm]; exact Nat.mod_add_div j inf.size] at ecell
              rw [ecell] at hj
              simp only [List.getElem?_map, List.getElem?_eq_getElem (show j % inf.size < z.length by omega), Option.map_some, Option.some.injEq] at hj
              rw [(colOf_at _ _).2 _ hq] at hj
              subst hj
              obtain ⟨y, hy, hyr⟩ := hcells.get (i := j % inf.size) (v := z[j % inf.size]) (by simp)
              refine ⟨y, ?_, hyr⟩
              rw [madeCells_get _ _ _ hlt]
              have hzs : z'.cells.size = inf.size := by omega
              rw [hzs]
              simp only [Array.getElem?_toList] at hy
              rw [getElem!_pos _ _ (by omega)]
              rw [Array.getElem?_eq_getElem (by omega)] at hy
              exact hy) rfl rfl rfl rfl
          refine ⟨_, _, _, hrun, .slice ⟨by omega, fun c hc => by simpa using hc, .inr ⟨w.heap.size, 0, (madeCells z'.cells (c0.toNat * inf.size)).size, by simp [put], by simp, ?_⟩⟩ ⟨_, by simp [put]; rfl⟩, this⟩
          rw [hsz]; simp
    · simp [AM.Runs] at hr
  · simp [AM.Runs] at hr
theorem buildSliceA_sound {ι : Inj} {h : Log} {w : World} (H : WRel E ra base ι h w) {t : TypeId} {len : Nat} {parts : List (Nat × AVal)} {parts' : Array (Nat × Value)} (he : parts'.toList.map (·.1) = parts.map (·.1)) (hp : RelL E ra ι (parts.map (·.2)) (parts'.toList.map (·.2))) :
    SoundAt P E ra base ι h w (buildSliceA P t len parts) (Instr.buildSlice t len parts') := by
  intro x d r hr
  unfold buildSliceA at hr
  split at hr
  · rename_i e hu
    split at hr
    · rename_i inf z e1 e2
      split at hr
      · rename_i cs hb hf
        simp only [AM.Runs] at hr
        obtain ⟨i, d', hi, rfl, rfl, rfl, rfl⟩ := hr
        simp only [Bool.and_eq_true] at hb
        have hzl := Nat.eq_of_beq_eq_true hb.1
        have hle := Nat.le_of_ble_eq_true hb.2
        cases hz : zeroA P e with
        | none => simp [hz] at e2
        | some zv =>
          simp only [hz, Option.bind_some] at e2
          obtain ⟨z', i', hi', hiz, hzr, hzR⟩ := zeroA_sound (E := E) (ra := ra) (ι := ι) (w := w) hz
          have hcells := rel_cells hzR e2
          have hlen := hcells.length
          simp only [Array.length_toList] at hlen
          let C : Array Value := (Array.range (len * inf.size)).map (fun k => (if len * inf.size = 0 then (#[] : Array Value) else z'.cells)[k % (if len * inf.size = 0 then (#[] : Array Value) else z'.cells).size]!)
          have hC : C.toList = rep z'.cells.toList len := by
            apply List.ext_getElem?
            intro k
            by_cases hk : k < len * inf.size
            · have hne : len * inf.size ≠ 0 := by omega
              have hzs : z'.cells.size = inf.size := by omega
              rw [rep_get _ _ _ (by simp [hzs]; exact hk)]
              have hp : 0 < inf.size := by
                rcases Nat.eq_zero_or_pos inf.size with hh | hh
                · rw [hh] at hk; simp at hk
                · exact hh
              have hm : k % inf.size < z'.cells.size := by rw [hzs]; exact Nat.mod_lt _ hp
              simp only [C, hne, if_false, Array.getElem?_toList, Array.getElem?_map, Array.length_toList, hzs]
              rw [show (Array.range (len * inf.size))[k]? = some k by simp [hk], Option.map_some, getElem!_pos z'.cells _ hm, Array.getElem?_eq_getElem hm]
            · rw [List.getElem?_eq_none (by simp [C]; omega), List.getElem?_eq_none (by rw [rep_length]; simp; rw [show z'.cells.size = inf.size by omega]; omega)]
          obtain ⟨cs', k1, k2⟩ := fillA_sound parts parts'.toList (rep z len) C cs (by rw [hC]; exact relL_rep hcells len) he hp hf
          have hl2 := k2.length
          simp only [Array.length_toList] at hl2
          have hcl : len * inf.size ≤ cs.length := by
            have : ∀ (parts : List (Nat × AVal)) (cells cs : List AVal), fillA (fun i => some (i * inf.size, inf.size)) cells parts = some cs → cs.length = cells.length := by
              intro parts
              induction parts with
              | nil => intro cells cs h; simp only [fillA, Option.some.injEq] at h; subst h; rfl
              | cons p parts ih =>
                obtain ⟨i, v⟩ := p
                intro cells cs h
                simp only [fillA] at h
                cases hv : cellsOfV v with
                | none => simp [hv] at h
                | some vs =>
                  simp only [hv] at h
                  cases hb : Nat.beq vs.length inf.size && Nat.ble (i * inf.size + inf.size) cells.length with
                  | false => simp [hb] at h
                  | true =>
                    simp only [hb] at h
                    simp only [Bool.and_eq_true] at hb
                    have h1 := Nat.eq_of_beq_eq_true hb.1
                    have h2 := Nat.le_of_ble_eq_true hb.2
                    rw [ih _ _ h]
                    simp; omega
            rw [this _ _ _ hf, rep_length, hzl]; exact Nat.le_refl _
          have := alloc_sound (w' := { w with heap := w.heap.push (.cells cs' e) }) (l := [segFrom len inf.size cs]) H hi (fun s hs => by
              simp only [List.mem_singleton] at hs; subst hs; exact segFrom_wf _ _ _) (cells := cs') (el := e) (by simp [total, segFrom]; omega) (fun j v hj => by
              have hlt := cellOf_lt hj
              simp only [total, Nat.add_zero, segFrom] at hlt
              rw [segFrom_cell hlt] at hj
              simp only [Option.some.injEq] at hj
              subst hj
              obtain ⟨y, hy, hyr⟩ := k2.get (i := j) (v := cs.getD j .undef) (by simp [show j < cs.length by omega])
              exact ⟨y, by simpa using hy, hyr⟩) rfl rfl rfl rfl
          refine ⟨.slice (some ⟨w.heap.size, 0, none⟩) len len, _, _, ?_, .slice ⟨Nat.le_refl _, fun c hc => by simpa using hc, .inr ⟨w.heap.size, 0, cs'.size, by simp [put], by simp, ?_⟩⟩ ⟨_, by simp [put]; rfl⟩, this⟩
          · by_cases hz0 : len * inf.size = 0
            · simp only [C, hz0, if_true] at k1
              simp [Instr.buildSlice, run_underlying hu, run_sizeOf e1, hz0, newRow]
              simp at k1
              rw [k1]
              simp
            · simp only [C, hz0, if_false] at k1
              have hnot : ¬ (16777216 < len * inf.size) := by omega
              simp [Instr.buildSlice, run_underlying hu, run_sizeOf e1, hz0, hzr, newRow, hnot]
              rw [k1]
              simp
          · simp; omega
      · simp [AM.Runs] at hr
    · simp [AM.Runs] at hr
  · simp [AM.Runs] at hr
end Go.Proofs.Ytgkejpfahpbnkaa.Ab

namespace Go.Proofs.Ytgkejpfahpbnkaa.Ab
variable {P : Program} {E : Nat → Nat → Seg} {ra : Nat → Nat → Nat × Nat} {base : Nat}
def colTake (c : Col) (i n : Nat) : Col :=
  match c with
  | .int k xs => .int k ((xs.drop i).take n)
  | .bool xs => .bool ((xs.drop i).take n)
  | .str xs => .str ((xs.drop i).take n)
  | .val xs => .val ((xs.drop i).take n)
  | .subs t ns bs => match i with
    | 0 => .subs t (ns.take n) (bs.take n)
    | i + 1 => .val ((List.range n).map fun k => colAt (.subs t ns bs) (i + 1 + k))
  | .nilc _ => .nilc n
  | .mix t ns bs v => .val ((List.range n).map fun k => colAt (.mix t ns bs v) (i + k))
def allNils : List AVal → Bool
  | [] => true
  | .nils :: l => allNils l
  | _ => false
theorem allNils_at : ∀ {l : List AVal}, allNils l = true → ∀ r, r < l.length → l.getD r .undef = .nils
  | [], _, r, hr => by simp at hr
  | v :: l, h, r, hr => by
    cases v <;> simp only [allNils] at h <;> try (cases h; done)
    cases r with
    | zero => rfl
    | succ r => simpa using allNils_at h r (by simpa using hr)
def nilCol : Col → Col
  | .val (.nils :: l) => match allNils l with
    | true => .nilc (l.length + 1)
    | false => .val (.nils :: l)
  | c => c
theorem nilCol_at (c : Col) : (nilCol c).len = c.len ∧ ∀ r, r < c.len → colAt (nilCol c) r = colAt c r := by
  unfold nilCol
  split
  · rename_i l
    cases h : allNils l with
    | false => exact ⟨rfl, fun _ _ => rfl⟩
    | true =>
      refine ⟨rfl, fun r hr => ?_⟩
      exact (allNils_at (l := .nils :: l) (by simp only [allNils]; exact h) r hr).symm
  · exact ⟨rfl, fun _ _ => rfl⟩
def nilsL : Nat → List AVal
  | 0 => []
  | n + 1 => .nils :: nilsL n
theorem nilsL_at : ∀ (n r : Nat), r < n → (nilsL n)[r]? = some .nils
  | 0, _, h => absurd h (Nat.not_lt_zero _)
  | n + 1, 0, _ => rfl
  | n + 1, r + 1, h => nilsL_at n r (Nat.lt_of_succ_lt_succ h)
theorem nilsL_length : ∀ n : Nat, (nilsL n).length = n
  | 0 => rfl
  | n + 1 => by simp [nilsL, nilsL_length n]
def colApp : Col → Col → Option Col
  | .int k xs, .int k' ys => match decide (k = k') with
    | true => some (.int k (xs ++ ys))
    | false => none
  | .bool xs, .bool ys => some (.bool (xs ++ ys))
  | .str xs, .str ys => some (.str (xs ++ ys))
  | .val [], .val ys => some (nilCol (.val ys))
  | .val xs, .val ys => some (.val (xs ++ ys))
  | .nilc a, .nilc b => some (.nilc (a + b))
  | .nilc a, .val ys => match allNils ys with
    | true => some (.nilc (a + ys.length))
    | false => some (.val (nilsL a ++ ys))
  | .subs t ns bs, .val [v] => some (.mix t ns bs v)
  | a, b => match Nat.beq a.len 0 with
    | true => some b
    | false => match Nat.beq b.len 0 with
      | true => some a
      | false => none
def colsApp : List Col → List Col → Option (List Col)
  | [], [] => some []
  | a :: l, b :: r => match colApp a b, colsApp l r with
    | some c, some cs => some (c :: cs)
    | _, _ => none
  | _, _ => none
def colCells : Col → Bool
  | .val xs => xs.all isCell
  | .subs _ _ _ => false
  | .mix _ _ _ _ => false
  | _ => true
theorem colTake_at {c : Col} {i n : Nat} (h : i + n ≤ c.len) : (colTake c i n).len = n ∧ ∀ r, r < n → colAt (colTake c i n) r = colAt c (i + r) := by
  cases c with
  | nilc m => exact ⟨rfl, fun _ _ => rfl⟩
  | subs t ns bs =>
    simp only [Col.len] at h
    cases i with
    | zero => exact ⟨by simp [colTake, Col.len]; omega, fun r hr => by simp only [colTake, colAt, List.getD_eq_getElem?_getD, List.getElem?_take, if_pos hr, Nat.zero_add]⟩
    | succ i => exact ⟨by simp [colTake, Col.len], fun r hr => by simp only [colTake]; simp only [colAt, List.getD_eq_getElem?_getD, List.getElem?_map, List.getElem?_range hr, Option.map_some, Option.getD_some]⟩
  | mix t ns bs v => exact ⟨by simp [colTake, Col.len], fun r hr => by simp only [colTake]; simp only [colAt, List.getD_eq_getElem?_getD, List.getElem?_map, List.getElem?_range hr, Option.map_some, Option.getD_some]⟩
  | int k xs => simp only [Col.len] at h; refine ⟨by simp [colTake, Col.len]; omega, fun r hr => ?_⟩; simp [colTake, colAt, hr, List.getElem?_drop]
  | bool xs => simp only [Col.len] at h; refine ⟨by simp [colTake, Col.len]; omega, fun r hr => ?_⟩; simp [colTake, colAt, hr, List.getElem?_drop]
  | str xs => simp only [Col.len] at h; refine ⟨by simp [colTake, Col.len]; omega, fun r hr => ?_⟩; simp [colTake, colAt, hr, List.getElem?_drop]
  | val xs => simp only [Col.len] at h; refine ⟨by simp [colTake, Col.len]; omega, fun r hr => ?_⟩; simp [colTake, colAt, hr, List.getElem?_drop]
theorem colApp_at {a b c : Col} (h : colApp a b = some c) : c.len = a.len + b.len ∧ (∀ r, r < a.len → colAt c r = colAt a r) ∧ ∀ r, r < b.len → colAt c (a.len + r) = colAt b r := by
  unfold colApp at h
  split at h
  · rename_i k xs k' ys
    by_cases hk : k = k'
    · subst hk
      simp only [decide_true, Option.some.injEq] at h; subst h
      refine ⟨by simp [Col.len], fun r hr => ?_, fun r _ => ?_⟩
      · simp only [Col.len] at hr; simp [colAt, List.getElem?_append_left hr]
      · simp [colAt, Col.len, List.getElem?_append_right]
    · simp [hk] at h
  iterate 2
    · simp only [Option.some.injEq] at h; subst h
      refine ⟨by simp [Col.len], fun r hr => ?_, fun r _ => ?_⟩
      · simp only [Col.len] at hr; simp [colAt, List.getElem?_append_left hr]
      · simp [colAt, Col.len, List.getElem?_append_right]
  · rename_i ys
    simp only [Option.some.injEq] at h; subst h
    obtain ⟨h1, h2⟩ := nilCol_at (.val ys)
    exact ⟨by rw [h1]; simp [Col.len], fun r hr => by simp [Col.len] at hr, fun r hr => by simpa [Col.len] using h2 r hr⟩
  · simp only [Option.some.injEq] at h; subst h
    refine ⟨by simp [Col.len], fun r hr => ?_, fun r _ => ?_⟩
    · simp only [Col.len] at hr; simp [colAt, List.getElem?_append_left hr]
    · simp [colAt, Col.len, List.getElem?_append_right]
  · simp only [Option.some.injEq] at h; subst h
    exact ⟨rfl, fun _ _ => rfl, fun _ _ => rfl⟩
  · rename_i m ys
    cases hn : allNils ys with
    | false =>
      simp only [hn, Option.some.injEq] at h; subst h
      refine ⟨by simp [Col.len, nilsL_length], fun r hr => ?_, fun r _ => ?_⟩
      · simp only [Col.len] at hr
        simp [colAt, List.getElem?_append_left (show r < (nilsL m).length by rw [nilsL_length]; exact hr), nilsL_at m r hr]
      · simp [colAt, Col.len, List.getElem?_append_right, nilsL_length]
    | true =>
      simp only [hn, Option.some.injEq] at h; subst h
      exact ⟨rfl, fun _ _ => rfl, fun r hr => (allNils_at hn r hr).symm⟩
  · rename_i t ns bs v
    simp only [Option.some.injEq] at h; subst h
    refine ⟨rfl, fun r hr => ?_, fun r hr => ?_⟩
    · simp only [Col.len] at hr
      have e : Nat.ble (r + 1) ns.length = true := Nat.ble_eq_true_of_le hr
      simp only [colAt, e]
    · simp only [Col.len, List.length_cons, List.length_nil] at hr
      have : r = 0 := by omega
      subst this
      have e : Nat.ble (ns.length + 0 + 1) ns.length = false := by
        cases hb : Nat.ble (ns.length + 0 + 1) ns.length with
        | false => rfl
        | true => have := Nat.le_of_ble_eq_true hb; omega
      simp only [colAt, Col.len, e]
      rfl
  · cases h0 : Nat.beq a.len 0 with
    | true =>
      have := Nat.eq_of_beq_eq_true h0
      simp only [h0, Option.some.injEq] at h
      subst h
      exact ⟨by omega, fun r hr => by omega, fun r _ => by rw [this, Nat.zero_add]⟩
    | false =>
      cases h1 : Nat.beq b.len 0 with
      | true =>
        have := Nat.eq_of_beq_eq_true h1
        simp only [h0, h1, Option.some.injEq] at h
        subst h
        exact ⟨by omega, fun r _ => rfl, fun r hr => by omega⟩
      | false => simp [h0, h1] at h
theorem colsApp_at : ∀ {a b c : List Col} {n m : Nat}, colsApp a b = some c → (∀ x ∈ a, x.len = n) → (∀ x ∈ b, x.len = m) →
    c.length = a.length ∧ b.length = a.length ∧ (∀ x ∈ c, x.len = n + m) ∧ (∀ (k r : Nat), r < n → (c[k]?).map (colAt · r) = (a[k]?).map (colAt · r)) ∧ ∀ (k r : Nat), r < m → (c[k]?).map (colAt · (n + r)) = (b[k]?).map (colAt · r)
  | [], [], c, n, m, h, _, _ => by simp only [colsApp, Option.some.injEq] at h; subst h; simp
  | [], _ :: _, c, n, m, h, _, _ => by simp [colsApp] at h
  | _ :: _, [], c, n, m, h, _, _ => by simp [colsApp] at h
  | x :: a, y :: b, c, n, m, h, ha, hb => by
    simp only [colsApp] at h
    cases h1 : colApp x y with
    | none => simp [h1] at h
    | some z =>
      cases h2 : colsApp a b with
      | none => simp [h1, h2] at h
      | some cs =>
        simp only [h1, h2, Option.some.injEq] at h
        subst h
        obtain ⟨g1, g2, g3⟩ := colApp_at h1
        obtain ⟨k1, k2, k3, k4, k5⟩ := colsApp_at h2 (fun q hq => ha q (by simp [hq])) (fun q hq => hb q (by simp [hq]))
        have hx : x.len = n := ha x (by simp)
        have hy : y.len = m := hb y (by simp)
        refine ⟨by simp [k1], by simp [k2], fun q hq => ?_, fun k r hr => ?_, fun k r hr => ?_⟩
        · simp only [List.mem_cons] at hq
          rcases hq with rfl | hq
          · omega
          · exact k3 q hq
        · cases k with
          | zero => simp [g2 r (by omega)]
          | succ k => simpa using k4 k r hr
        · cases k with
          | zero => simp only [List.getElem?_cons_zero, Option.map_some]; rw [← hx, g3 r (by omega)]
          | succ k => simpa using k5 k r hr
theorem rows_cell {n st j : Nat} {cols : List Col} (h : j < n * st) : cellOf [{ n, st, cols }] j = (cols[j % st]?).map (colAt · (j / st)) := by
  have hp : 0 < st := by
    rcases Nat.eq_zero_or_pos st with h0 | h0
    · subst h0; simp at h
    · exact h0
  have hq : j / st < n := Nat.div_lt_of_lt_mul (by rw [Nat.mul_comm]; exact h)
  have hm : j % st < st := Nat.mod_lt _ hp
  have e : j % st + j / st * st = j := by rw [Nat.mul_comm]; exact Nat.mod_add_div j st
  have := seg_cell (s := { n, st, cols }) (l := []) (i := j / st) (c := j % st) hq hm
  simp only at this
  rw [e] at this; exact this
theorem app_cell {n m st j : Nat} {a b c : List Col} (h : colsApp a b = some c) (ha : ∀ x ∈ a, x.len = n) (hb : ∀ x ∈ b, x.len = m) (hj : j < (n + m) * st) :
    cellOf [{ n := n + m, st, cols := c }] j = if j < n * st then cellOf [{ n, st, cols := a }] j else cellOf [{ n := m, st, cols := b }] (j - n * st) := by
  obtain ⟨_, _, _, k4, k5⟩ := colsApp_at h ha hb
  have hp : 0 < st := by
    rcases Nat.eq_zero_or_pos st with h0 | h0
    · subst h0; simp at hj
    · exact h0
  rw [rows_cell hj]
  by_cases hlt : j < n * st
  · rw [if_pos hlt, rows_cell hlt, k4 _ _ (Nat.div_lt_of_lt_mul (by rw [Nat.mul_comm]; exact hlt))]
  · rw [if_neg hlt]
    have hj2 : j - n * st < m * st := by rw [Nat.add_mul] at hj; omega
    rw [rows_cell hj2]
    have e1 : j = (j - n * st) + n * st := by omega
    have e2 : j % st = (j - n * st) % st := by conv => lhs; rw [e1, Nat.add_mul_mod_self_right]
    have e3 : j / st = n + (j - n * st) / st := by conv => lhs; rw [e1, Nat.add_mul_div_right _ _ hp]; rw [Nat.add_comm]
    rw [e2, e3, k5 _ _ (Nat.div_lt_of_lt_mul (by rw [Nat.mul_comm st m]; exact hj2))]
def segOff : List Seg → Nat → Option Seg
  | [], _ => none
  | s :: l, off => match Nat.beq off 0 with
    | true => some s
    | false => match Nat.ble (s.n * s.st) off with
      | true => segOff l (off - s.n * s.st)
      | false => none
theorem segOff_spec : ∀ {l : List Seg} {off : Nat} {s : Seg}, segOff l off = some s → s ∈ l ∧ ∀ j v, cellOf [s] j = some v → cellOf l (off + j) = some v
  | [], _, _, h => by cases h
  | q :: l, off, s, h => by
    simp only [segOff] at h
    cases h0 : Nat.beq off 0 with
    | true =>
      have := Nat.eq_of_beq_eq_true h0
      simp only [h0, Option.some.injEq] at h
      subst h; subst this
      refine ⟨by simp, fun j v hv => ?_⟩
      have hj := cellOf_lt hv
      simp only [total, Nat.add_zero] at hj
      simp only [cellOf, Nat.zero_add, Nat.ble_eq_true_of_le (show j + 1 ≤ q.n * q.st from hj)] at hv ⊢
      exact hv
    | false =>
      cases h1 : Nat.ble (q.n * q.st) off with
      | false => simp [h0, h1] at h
      | true =>
        have hle := Nat.le_of_ble_eq_true h1
        simp only [h0, h1] at h
        obtain ⟨k1, k2⟩ := segOff_spec h
        refine ⟨by simp [k1], fun j v hv => ?_⟩
        have := k2 j v hv
        have hn : Nat.ble (off + j + 1) (q.n * q.st) = false := by
          cases hh : Nat.ble (off + j + 1) (q.n * q.st) with
          | false => rfl
          | true => have := Nat.le_of_ble_eq_true hh; omega
        simp only [cellOf, hn]
        rw [show off + j - q.n * q.st = off - q.n * q.st + j by omega]
        exact this
section
variable (E)
def rowsA (sz n : Nat) (x : AVal) : AM (List Col) :=
  match x with
  | .slice (.own id off i st) _ _ => match Nat.beq st sz with
    | true => .read id fun b => match b with
      | .segs l => match segOff l off with
        | some s => match Nat.beq s.st sz with
          | true => .need (decide (i + n ≤ s.n)) (.pure (s.cols.map (colTake · i n)))
          | false => .fail
        | none => .fail
      | _ => .fail
    | false => .fail
  | .slice (.ro tid par i 0) _ _ => match Nat.beq (E tid par).st sz with
    | true => .need (decide (i + n ≤ (E tid par).n)) (.pure ((E tid par).cols.map (colTake · i n)))
    | false => .fail
  | .str s => match Nat.beq sz 1 with
    | true => .need (decide (n ≤ s.size)) (.pure [.int .u8 ((s.data.toList.take n).map fun b => (b.toNat : Int))])
    | false => .fail
  | _ => .fail
end
def RowsIn (E : Nat → Nat → Seg) (ra : Nat → Nat → Nat × Nat) (ι : Inj) (n sz : Nat) (cols : List Col) (vs : List Value) : Prop :=
  vs.length = n * sz ∧ cols.length = sz ∧ (∀ c ∈ cols, c.len = n) ∧ ∀ j v, cellOf [{ n, st := sz, cols }] j = some v → ∃ x, vs[j]? = some x ∧ Rel E ra ι v x
theorem RowsIn.mono {ι ι' : Inj} (he : Ext ι ι') {n sz : Nat} {cols : List Col} {vs : List Value} (h : RowsIn E ra ι n sz cols vs) : RowsIn E ra ι' n sz cols vs :=
  ⟨h.1, h.2.1, h.2.2.1, fun j v hv => let ⟨x, hx, hr⟩ := h.2.2.2 j v hv; ⟨x, hx, hr.mono he⟩⟩
theorem rowsIn_nilCol {ι : Inj} {n sz : Nat} {cols : List Col} {vs : List Value} (h : RowsIn E ra ι n sz cols vs) : RowsIn E ra ι n sz (cols.map nilCol) vs := by
  refine ⟨h.1, by simp [h.2.1], fun c hc => ?_, fun j v hv => h.2.2.2 j v ?_⟩
  · simp only [List.mem_map] at hc
    obtain ⟨q, hq, rfl⟩ := hc
    rw [(nilCol_at q).1]; exact h.2.2.1 q hq
  · simp only [cellOf] at hv ⊢
    cases hb : Nat.ble (j + 1) (n * sz) with
    | false => simp [hb] at hv
    | true =>
      simp only [hb, List.getElem?_map] at hv ⊢
      have hlt := Nat.le_of_ble_eq_true hb
      cases hc : cols[j % sz]? with
      | none => simp [hc] at hv
      | some c =>
        simp only [hc, Option.map_some, Option.some.injEq] at hv ⊢
        have hl := h.2.2.1 c (List.mem_of_getElem? hc)
        have hq : j / sz < n := Nat.div_lt_of_lt_mul (by rw [Nat.mul_comm]; omega)
        rw [← (nilCol_at c).2 _ (by omega)]; exact hv
theorem take_rows {s : Seg} (hw : s.WF) {i n : Nat} (hfit : i + n ≤ s.n) {j : Nat} (hj : j < n * s.st) :
    cellOf [{ n, st := s.st, cols := s.cols.map (colTake · i n) }] j = cellOf [s] (i * s.st + j) := by
  have hp : 0 < s.st := by
    rcases Nat.eq_zero_or_pos s.st with h0 | h0
    · rw [h0] at hj; simp at hj
    · exact h0
  have hq : j / s.st < n := Nat.div_lt_of_lt_mul (by rw [Nat.mul_comm]; exact hj)
  have hm : j % s.st < s.st := Nat.mod_lt _ hp
  have hlt : i * s.st + j < s.n * s.st := by
    have : (i + n) * s.st ≤ s.n * s.st := Nat.mul_le_mul_right _ hfit
    rw [Nat.add_mul] at this; omega
  rw [rows_cell hj]
  have := rows_cell (n := s.n) (st := s.st) (cols := s.cols) hlt
  rw [show [s] = [{ n := s.n, st := s.st, cols := s.cols }] from rfl, this]
  have e1 : (i * s.st + j) % s.st = j % s.st := by rw [Nat.add_comm, Nat.add_mul_mod_self_right]
  have e2 : (i * s.st + j) / s.st = i + j / s.st := by rw [Nat.add_comm, Nat.add_mul_div_right _ _ hp]; rw [Nat.add_comm]
  rw [e1, e2, List.getElem?_map]
  cases hc : s.cols[j % s.st]? with
  | none => rfl
  | some c =>
    have hcl : c.len = s.n := hw.2 c (List.mem_of_getElem? hc)
    simp only [Option.map_some, Option.some.injEq]
    exact (colTake_at (by omega)).2 _ hq
theorem rowsA_sound {ι : Inj} {h : Log} {w : World} (H : WRel E ra base ι h w) {sz n : Nat} {x : AVal} {x' : Value} (hx : Rel E ra ι x x') {cols : List Col} {d : Log} {r : List Nat} (hr : (rowsA E sz n x).Runs h cols d r)
    (hn : ∀ a l c, x = .slice a l c → n ≤ l) :
    d = [] ∧ ∃ vs, (∀ w₁ : World, w₁.heap = w.heap → (Builtin.firstCells sz n x').run P w₁ = .ok vs.toArray w₁) ∧ RowsIn E ra ι n sz cols vs := by
  have wrap : ∀ (b o : Nat) (s : Seg) (i : Nat), s.WF → s.st = sz → i + n ≤ s.n → (∀ j v, cellOf [s] j = some v → ∃ c, w.cell? ⟨b, o + j, none⟩ = some c ∧ Rel E ra ι v c) →
      ∃ vs : List Value, (∀ w₁ : World, w₁.heap = w.heap → (loadCells ⟨b, o + i * sz, none⟩ (n * sz)).run P w₁ = .ok vs.toArray w₁) ∧ RowsIn E ra ι n sz (s.cols.map (colTake · i n)) vs := by
    intro b o s i hw hst hfit hc
    subst hst
    have hall : ∀ j, j < n * s.st → ∃ v, cellOf [s] (i * s.st + j) = some v := fun j hj => by
      refine cellOf_some (fun q hq => by simp only [List.mem_singleton] at hq; subst hq; exact hw) ?_
      have : (i + n) * s.st ≤ s.n * s.st := Nat.mul_le_mul_right _ hfit
      rw [Nat.add_mul] at this; simp only [total]; omega
    let f : Nat → Value := fun j => (w.cell? ⟨b, o + i * s.st + j, none⟩).getD undef
    have hcell : ∀ j, j < n * s.st → w.cell? ⟨b, o + i * s.st + j, none⟩ = some (f j) := fun j hj => by
      obtain ⟨v, hv⟩ := hall j hj
      obtain ⟨c, hc1, _⟩ := hc _ v hv
      have e : o + (i * s.st + j) = o + i * s.st + j := by omega
      rw [e] at hc1
      simp only [f, hc1, Option.getD_some]
    refine ⟨(List.range (n * s.st)).map f, fun w₁ hh => run_loadCells' (by simp) (fun k hk => by rw [cell?_of_heap (w := w) (by rw [hh]), hcell k hk]; simp [hk]), by simp, by simp [hw.1], fun c hc => ?_, fun j v hv => ?_⟩
    · simp only [List.mem_map] at hc
      obtain ⟨q, hq, rfl⟩ := hc
      exact (colTake_at (by rw [hw.2 q hq]; exact hfit)).1
    · have hj := cellOf_lt hv
      simp only [total, Nat.add_zero] at hj
      rw [take_rows hw hfit hj] at hv
      obtain ⟨c, hc1, hc2⟩ := hc _ v hv
      have e : o + (i * s.st + j) = o + i * s.st + j := by omega
      rw [e, hcell j hj] at hc1
      simp only [Option.some.injEq] at hc1
      exact ⟨c, by simp [hj, hc1], hc2⟩
  unfold rowsA at hr
  split at hr
  · rename_i id off i st len cap
    cases hx with | slice hS hNm =>
    rename_i y cap'
    obtain ⟨g1, g2, g3⟩ := hS
    have hnl : n ≤ len := hn _ _ _ rfl
    cases hst : Nat.beq st sz with
    | false => simp [hst, AM.Runs] at hr
    | true =>
      have := Nat.eq_of_beq_eq_true hst
      subst this
      simp only [hst, AM.Runs] at hr
      obtain ⟨B, r', hv, rfl, hr⟩ := hr
      have hB := H.own id B hv
      split at hr
      · rename_i l
        split at hr
        · rename_i s hso
          obtain ⟨hsm, hsc⟩ := segOff_spec hso
          obtain ⟨b', o', cs', el, fz, h1, h2, h3, h4, h5, h6, h7⟩ := hB
          cases hss : Nat.beq s.st st with
          | false => simp [hss, AM.Runs] at hr
          | true =>
            have hse := Nat.eq_of_beq_eq_true hss
            simp only [hss, AM.Runs] at hr
            obtain ⟨hfit, rfl, rfl, rfl⟩ := hr
            have hfit' := of_decide_eq_true hfit
            obtain ⟨vs, k1, k2⟩ := wrap b' (o' + off) s i (h6 s hsm) hse hfit' (fun j v hv => by
              obtain ⟨c, hc1, hc2⟩ := h7 _ v (hsc j v hv)
              exact ⟨c, by rw [cell_at h3, Nat.add_assoc]; exact hc1, hc2⟩)
            refine ⟨rfl, vs, ?_, k2⟩
            rcases g3 with g3 | ⟨b, o, sz', g4, rfl, g5⟩
            · have hz : n = 0 := by omega
              subst hz
              have hvs : vs = [] := List.eq_nil_of_length_eq_zero (by rw [k2.1]; simp)
              subst hvs
              intro w₁ _
              simp [Builtin.firstCells, loadCells, loadCellsFrom]
            · rw [h1] at g4
              simp only [Option.some.injEq, Prod.mk.injEq] at g4
              obtain ⟨rfl, rfl, rfl⟩ := g4
              intro w₁ hh
              simp only [Builtin.firstCells]
              simpa using k1 w₁ hh
        · simp [AM.Runs] at hr
      · simp [AM.Runs] at hr
  · rename_i tid par i len cap
    cases hx with | slice hS hNm =>
    rename_i y cap'
    obtain ⟨g1, g2, g3⟩ := hS
    have hnl : n ≤ len := hn _ _ _ rfl
    cases hst : Nat.beq (E tid par).st sz with
    | false => simp [hst, AM.Runs] at hr
    | true =>
      have hse := Nat.eq_of_beq_eq_true hst
      simp only [hst, AM.Runs] at hr
      obtain ⟨hfit, rfl, rfl, rfl⟩ := hr
      have hfit' := of_decide_eq_true hfit
      obtain ⟨vs, k1, k2⟩ := wrap (ra tid par).1 (ra tid par).2 (E tid par) i (H.roWF tid par) hse hfit' (fun j v hv => H.ro tid par j v hv)
      refine ⟨rfl, vs, ?_, k2⟩
      rcases g3 with g3 | g3
      · have hz : n = 0 := by omega
        subst hz
        have hvs : vs = [] := List.eq_nil_of_length_eq_zero (by rw [k2.1]; simp)
        subst hvs
        intro w₁ _
        simp [Builtin.firstCells, loadCells, loadCellsFrom]
      · simp only at g3
        subst g3
        intro w₁ hh
        simp only [Builtin.firstCells]
        rw [hse]; simpa using k1 w₁ hh
  · rename_i s
    cases hx
    cases hst : Nat.beq sz 1 with
    | false => simp [hst, AM.Runs] at hr
    | true =>
      have := Nat.eq_of_beq_eq_true hst
      subst this
      simp only [AM.Runs] at hr
      obtain ⟨hfit, rfl, rfl, rfl⟩ := hr
      have hfit' := of_decide_eq_true hfit
      have hlen : (s.data.toList.take n).length = n := by rw [List.length_take, Nat.min_eq_left]; simpa using hfit'
      refine ⟨rfl, (s.data.toList.take n).map fun b => .int .u8 b.toNat, ?_, by simpa using hlen, rfl, fun c hc => ?_, fun j v hv => ?_⟩
      · intro w₁ _
        simp only [Builtin.firstCells, Sem.run_pure]
        congr 1
        apply Array.ext'
        rw [show s = ByteArray.mk s.data.toList.toArray from rfl, ByteArray.extract_mk]
        simp
      · simp only [List.mem_singleton] at hc; subst hc; simpa [Col.len] using hlen
      · have hj := cellOf_lt hv
        simp only [total, Nat.mul_one, Nat.add_zero] at hj
        rw [rows_cell (by simpa using hj)] at hv
        simp only [Nat.mod_one, List.getElem?_cons_zero, Nat.div_one, Option.map_some, Option.some.injEq] at hv
        subst hv
        have hjl : j < (s.data.toList.take n).length := by omega
        refine ⟨.int .u8 ((s.data.toList.take n)[j].toNat : Int), by rw [List.getElem?_map, List.getElem?_eq_getElem hjl]; rfl, ?_⟩
        simp only [colAt, List.getD_eq_getElem?_getD, List.getElem?_map, List.getElem?_eq_getElem hjl, Option.map_some, Option.getD_some]
        exact .int _ _
  · simp [AM.Runs] at hr
theorem rows_oneCell {ι : Inj} {n sz : Nat} {cols : List Col} {vs : List Value} (h : RowsIn E ra ι n sz cols vs) (hc : cols.all colCells = true) : ∀ v ∈ vs, v.oneCell' = true := by
  intro v hv
  obtain ⟨k, hk, rfl⟩ := List.getElem_of_mem hv
  have hk' : k < n * sz := by rw [← h.1]; exact hk
  have hp : 0 < sz := by
    rcases Nat.eq_zero_or_pos sz with h0 | h0
    · subst h0; simp at hk'
    · exact h0
  have hm : k % sz < cols.length := by rw [h.2.1]; exact Nat.mod_lt _ hp
  have hq : k / sz < n := Nat.div_lt_of_lt_mul (by rw [Nat.mul_comm]; exact hk')
  have hcell := rows_cell (cols := cols) hk'
  rw [List.getElem?_eq_getElem hm, Option.map_some] at hcell
  obtain ⟨x, hx, hr⟩ := h.2.2.2 k _ hcell
  rw [List.getElem?_eq_getElem hk] at hx
  simp only [Option.some.injEq] at hx
  rw [hx]
  refine rel_oneCell hr ?_
  have hcc := List.all_eq_true.1 hc _ (List.getElem_mem hm)
  have hlen := h.2.2.1 _ (List.getElem_mem hm)
  revert hcc hlen
  cases cols[k % sz] with
  | int k xs => intro _ _; rfl
  | bool xs => intro _ _; rfl
  | str xs => intro _ _; rfl
  | val xs =>
    intro hcc hlen
    simp only [Col.len] at hlen
    simp only [colAt, List.getD_eq_getElem?_getD, List.getElem?_eq_getElem (show k / sz < xs.length by omega), Option.getD_some]
    exact List.all_eq_true.1 hcc _ (List.getElem_mem _)
  | nilc m => intro _ _; rfl
  | subs t ns bs => intro hcc _; simp [colCells] at hcc
  | mix t ns bs v => intro hcc _; simp [colCells] at hcc
end Go.Proofs.Ytgkejpfahpbnkaa.Ab
